/- Dumps: how a list of them is read; the checks, the numbers from 0 on, the makespan of an order, and the comparison of two numbers. -/
import Derived.Test.YtnoocdobldchoaaPkBase
namespace Go.Proofs.Ytnoocdobldchoaa
open Go.RowKit Go.Proofs.YtnoocdobldchoaaW.PrintWords Go.Proofs.YtnoocdobldchoaaW.PrintMore Go.Proofs.YtnoocdobldchoaaW.PrintLast

/-- A struct of two whole numbers. -/
def kP : Kd (Int × Int) := Kd.pair (Kd.int .i64) (Kd.int .i64)
theorem kP_open {w : World} {x : Int × Int} {cs : List Value} (h : kP.K w x cs) : cs = [.int .i64 x.1, .int .i64 x.2] := by
  obtain ⟨_, _, rfl, rfl, rfl⟩ := h
  rfl
theorem kP_mk (w : World) (x : Int × Int) : kP.K w x [.int .i64 x.1, .int .i64 x.2] := ⟨[.int .i64 x.1], [.int .i64 x.2], rfl, rfl, rfl⟩
def rdP (xs : List (Int × Int)) (i : Int) : Int × Int := xs.getD i.toNat (0, 0)
theorem at_P {w : World} {A : Option Addr} {n : Nat} {xs : List (Int × Int)} (h : kP.C w A n xs) (i : Int) (h0 : 0 ≤ i) (h1 : i < n) : ∃ ad, A = some ad ∧ w.cell? (ad.add (i.toNat * 2)) = some (.int .i64 (rdP xs i).1) ∧ w.cell? ⟨(ad.add (i.toNat * 2)).block, (ad.add (i.toNat * 2)).off + 1, none⟩ = some (.int .i64 (rdP xs i).2) := by
  obtain ⟨ad, c, e, _, hK, hc0⟩ := Kd.C_get h (0, 0) i h0 h1
  have hc : ∀ j u, c[j]? = some u → w.cell? (ad.add (i.toNat * 2 + j)) = some u := hc0
  obtain rfl := kP_open hK
  exact ⟨ad, e, hc 0 _ rfl, by rw [← add_field _ _ 1 (by omega)]; exact hc 1 _ rfl⟩
theorem dropP {α : Type} (xs : List α) (z : α) (i : Int) (h0 : 0 ≤ i) (h : i < xs.length) : xs.drop i.toNat = xs.getD i.toNat z :: xs.drop (i + 1).toNat := by
  have hl : i.toNat < xs.length := by omega
  rw [List.drop_eq_getElem_cons hl, show (i + 1).toNat = i.toNat + 1 by omega]
  simp [List.getD_eq_getElem?_getD, List.getElem?_eq_getElem hl]

def okMin (n : Int) : Bool := decide (0 ≤ n ∧ n ≤ 1073741824)
theorem minutes_any (w : World) (x : Int) : Calls Try.prog 51 #[.int .i64 x] w fun e w' => e = .returned (.bool (okMin x)) ∧ w = w' := by
  by_cases h0 : 0 ≤ x
  · by_cases h1 : x ≤ 1073741824
    · have hd : decide (0 ≤ x) = true := by simpa using h0
      go_enter Try.func51, Try.ntmps51
      go_wp2_with fail
      go_ret
      exact ⟨ret_bool (by simp [okMin, h0, h1]), rfl⟩
    · have hd : decide (0 ≤ x) = true := by simpa using h0
      go_enter Try.func51, Try.ntmps51
      go_wp2_with fail
      go_ret
      exact ⟨ret_bool (by simp [okMin, h0]; omega), rfl⟩
  · have hd : decide (0 ≤ x) = false := by simpa using h0
    go_enter Try.func51, Try.ntmps51
    go_wp2_with fail
    go_ret
    exact ⟨ret_bool (by simp [okMin]; omega), rfl⟩

theorem isNaN_any (w : World) (x : Int) : Calls Try.prog 72 #[.int .i64 x] w fun e w' => e = .returned (.bool false) ∧ w = w' := by
  go_enter Try.func72, Try.ntmps72
  go_wp2_with fail
  go_ret
  exact ⟨rfl, rfl⟩
def cmpI (x y : Int) : Int := if x < y then -1 else if y < x then 1 else 0
theorem compare_any (w : World) (x y : Int) : Calls Try.prog 55 #[.int .i64 x, .int .i64 y] w fun e w' => e = .returned (.int .i64 (cmpI x y)) ∧ w = w' := by
  have h1 := Aside0.mk (isNaN_any w)
  by_cases h : x < y
  · go_enter Try.func55, Try.ntmps55
    go_wp2_with ((with_reducible refine (h1.out _).mono ?_); rintro e w' ⟨rfl, rfl⟩)
    go_ret
    exact ⟨ret_int (by unfold cmpI; rw [if_pos h]), rfl⟩
  · by_cases k : y < x
    · go_enter Try.func55, Try.ntmps55
      go_wp2_with ((with_reducible refine (h1.out _).mono ?_); rintro e w' ⟨rfl, rfl⟩)
      go_ret
      exact ⟨ret_int (by unfold cmpI; rw [if_neg (by omega), if_pos (by omega)]), rfl⟩
    · go_enter Try.func55, Try.ntmps55
      go_wp2_with ((with_reducible refine (h1.out _).mono ?_); rintro e w' ⟨rfl, rfl⟩)
      go_ret
      exact ⟨ret_int (by unfold cmpI; rw [if_neg (by omega), if_neg (by omega)]), rfl⟩

def badD (d : Int × Int) : Bool := !okMin d.1 || !okMin d.2
def dumpsE (ds : List (Int × Int)) : Int := if 64 < ds.length then 3 else if ds.any badD then 2 else 0

set_option maxHeartbeats 1000000 in
theorem checked_any (w : World) (A : Option Addr) (c : Nat) (ds : List (Int × Int)) (h : kP.C w A ds.length ds) :
    Calls Try.prog 59 #[.slice A ds.length c] w fun e w' => e = .returned (.int .i64 (dumpsE ds)) ∧ Below w.heap.size w w' := by
  have hl := Kd.C_max h
  have HR := Aside0.mk h; clear h
  obtain ⟨e0, he0⟩ : ∃ z, z = dumpsE ds := ⟨_, rfl⟩
  rw [← he0]
  by_cases hlen : 64 < ds.length
  · unfold dumpsE at he0
    rw [if_pos hlen] at he0
    have hlen' : (64 : Int) < ds.length := by omega
    subst he0
    go_enter Try.func59, Try.ntmps59
    go_wp2_with fail
    go_ret
    exact ⟨rfl, Below.refl _ _⟩
  unfold dumpsE at he0
  rw [if_neg hlen] at he0
  have HE := Aside0.mk he0; clear he0
  go_enter Try.func59, Try.ntmps59
  go_wp2_with fail
  all_goals try (exfalso; omega)
  go_loopw [10] (fun v wr => ∃ i : Int, v = .int .i64 i ∧ 0 ≤ i ∧ i ≤ ds.length ∧ Aside0 ((ds.drop i.toNat).any badD = ds.any badD) ∧ Aside0 (Below w.heap.size w wr)) (fun v _ => ds.length - (intOf v).toNat)
  case atStart => exact ⟨0, rfl, by omega, by omega, ⟨rfl⟩, ⟨Below.refl _ _⟩⟩
  case round =>
    obtain ⟨i, rfl, h0, h1, he, hb⟩ := hrel
    by_cases hlt : i < ds.length
    · obtain ⟨ad, e1, g1, g2⟩ := at_P (Kd.C_below HR.out hb.out) i h0 hlt
      subst e1
      have h2 := he.out
      rw [dropP ds (0, 0) i h0 hlt, List.any_cons] at h2
      obtain ⟨x, hx⟩ : ∃ z, z = (rdP ds i).1 := ⟨_, rfl⟩
      obtain ⟨y, hy⟩ : ∃ z, z = (rdP ds i).2 := ⟨_, rfl⟩
      have hbd : badD (ds.getD i.toNat (0, 0)) = (!okMin x || !okMin y) := by rw [hx, hy]; rfl
      rw [← hx] at g1; rw [← hy] at g2
      rw [hbd] at h2
      have H2 := Aside0.mk h2; clear h2 hx hy hbd he
      have hm := Aside0.mk (fun W => minutes_any W)
      cases hox : okMin x with
      | false =>
        have hE : e0 = 2 := by
          have := H2.out
          rw [hox] at this
          rw [HE.out, ← this]; rfl
        subst hE
        have HX := Aside0.mk hox; clear hox
        go_wp2_with ((with_reducible refine (hm.out _ _).mono ?_); rintro e w' ⟨rfl, rfl⟩; try rw [HX.out])
        go_ret
        exact ⟨rfl, below_alloc hb.out _⟩
      | true =>
        cases hoy : okMin y with
        | false =>
          have hE : e0 = 2 := by
            have := H2.out
            rw [hoy] at this
            rw [HE.out, ← this]; simp
          subst hE
          have HX := Aside0.mk hox; clear hox
          have HY := Aside0.mk hoy; clear hoy
          go_wp2_with ((with_reducible refine (hm.out _ _).mono ?_); rintro e w' ⟨rfl, rfl⟩; first | rw [HX.out] | rw [HY.out])
          go_ret
          exact ⟨rfl, below_alloc hb.out _⟩
        | true =>
          have hE : (ds.drop (i + 1).toNat).any badD = ds.any badD := by
            have := H2.out
            rw [hox, hoy] at this
            rw [← this]; rfl
          have HF := Aside0.mk hE; clear hE
          have HX := Aside0.mk hox; clear hox
          have HY := Aside0.mk hoy; clear hoy
          go_wp2_with ((with_reducible refine (hm.out _ _).mono ?_); rintro e w' ⟨rfl, rfl⟩; first | rw [HX.out] | rw [HY.out])
          go_roundw
          case rel => exact ⟨i + 1, by go_num, by omega, by omega, HF, ⟨below_alloc hb.out _⟩⟩
          case measure => simp [intOf]; omega
    · have hE : e0 = 0 := by
        have := he.out
        rw [show i.toNat = ds.length by omega, List.drop_length] at this
        rw [HE.out, ← this]; rfl
      subst hE
      go_wp2_with fail
      go_ret
      exact ⟨rfl, hb.out⟩

/-- The numbers from 0 on. -/
def upto (n : Nat) : List Int := (List.range n).map fun (i : Nat) => (i : Int)
theorem upto_succ (n : Nat) : upto (n + 1) = upto n ++ [(n : Int)] := by unfold upto; rw [List.range_succ, List.map_append]; rfl
theorem upto_length (n : Nat) : (upto n).length = n := by simp [upto]

set_option maxHeartbeats 1000000 in
theorem rising_any (w : World) (n : Nat) (hn : n ≤ 100000) :
    Calls Try.prog 52 #[.int .i64 n] w fun e w' => ∃ g, e = .returned (.slice (some ⟨g, 0, none⟩) n n) ∧ w.heap.size ≤ g ∧ Below w.heap.size w w' ∧ Blk w' g (ints (upto n)) 3 := by
  have mk1 := print_make (P := Try.prog) 22 3 .i64 8 Try.underlying22 info3 (by decide) n (by omega)
  go_enter Try.func52, Try.ntmps52
  go_upto_region 2 with fail
  clear mk1
  have b1 := below_alloc (Below.refl w.heap.size w) (.cells (madeCells #[.int .i64 0] n) 3)
  have g1 : Blk (w.alloc (.cells (madeCells #[.int .i64 0] n) 3)) w.heap.size (ints (List.replicate n 0)) 3 := by
    rw [made_ints]; exact Blk.new _ _ _
  obtain ⟨w1, hw1⟩ : ∃ z, z = w.alloc (.cells (madeCells #[.int .i64 0] n) 3) := ⟨_, rfl⟩
  rw [← hw1] at b1 g1 ⊢
  have B1 := Aside0.mk b1; clear b1
  have G1 := Aside0.mk g1; clear g1 hw1
  go_wp2_with fail
  go_loopw [9] (fun v wr => ∃ i : Nat, v = .int .i64 i ∧ i ≤ n ∧ Aside0 (Below w.heap.size w wr) ∧ Aside0 (Blk wr w.heap.size (ints (upto i ++ List.replicate (n - i) 0)) 3)) (fun v _ => n - (intOf v).toNat)
  case atStart => exact ⟨0, rfl, by omega, B1, ⟨by simpa [upto] using G1.out⟩⟩
  case round =>
    obtain ⟨i, rfl, h1, hb, hg⟩ := hrel
    by_cases hlt : i < n
    · have hil : i < (upto i ++ List.replicate (n - i) 0).length := by simp [upto_length]; omega
      have f1 := hg.out.at_ (ints_get _ hil)
      have f2 := hg.out.free i
      go_wp2_with fail
      go_roundw
      case rel =>
        refine ⟨i + 1, by go_num, by omega, ⟨hb.out.setCell (Nat.le_refl _) _⟩, ⟨?_⟩⟩
        have := hg.out.set i (.int .i64 i)
        rw [ints_set] at this
        have e2 : (upto i ++ List.replicate (n - i) 0).set i (i : Int) = upto (i + 1) ++ List.replicate (n - (i + 1)) 0 := by
          rw [List.set_append_right _ _ (by rw [upto_length]; omega), upto_length, Nat.sub_self, show n - i = (n - (i + 1)) + 1 by omega, List.replicate_succ, List.set_cons_zero, upto_succ, List.append_assoc]
          rfl
        rwa [e2] at this
      case measure => simp [intOf]; omega
    · go_wp2_with fail
      go_ret
      refine ⟨_, rfl, Nat.le_refl _, hb.out, ?_⟩
      have := hg.out
      rw [show i = n by omega, Nat.sub_self] at this
      simpa using this
end Go.Proofs.Ytnoocdobldchoaa
