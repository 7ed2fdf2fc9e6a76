/- Dumps: how a list of them is read; the checks, the numbers from 0 on, the makespan of an order, and the comparison of two numbers. -/
import Derived.Test.YtnoocdobldchoaaA4
import Derived.Deep.RegionWith
import Derived.StillTailTactics
namespace Go.Proofs.Ytnoocdobldchoaa
open Go.RowKit Go.Proofs.YtnoocdobldchoaaW.PrintWords Go.Proofs.YtnoocdobldchoaaW.PrintMore Go.Proofs.YtnoocdobldchoaaW.PrintLast

/-! ### Dumps: how a list of them is read; the checks, the numbers from 0 on, the makespan of an order, and the comparison of two numbers. -/
/-- A struct of two whole numbers. -/
def kP : Kd (Int × Int) := Kd.pair (Kd.int .i64) (Kd.int .i64)
theorem kP_open {w : World} {x : Int × Int} {cs : List Value} (h : kP.K w x cs) : cs = [.int .i64 x.1, .int .i64 x.2] := by
  obtain ⟨_, _, rfl, rfl, rfl⟩ := h
  rfl
theorem kP_mk (w : World) (x : Int × Int) : kP.K w x [.int .i64 x.1, .int .i64 x.2] := ⟨[.int .i64 x.1], [.int .i64 x.2], rfl, rfl, rfl⟩
def rdP (xs : List (Int × Int)) (i : Int) : Int × Int := xs.getD i.toNat (0, 0)
theorem at_P {w : World} {A : Option Addr} {n : Nat} {xs : List (Int × Int)} (h : kP.C w A n xs) (i : Int) (h0 : 0 ≤ i) (h1 : i < n) : ∃ ad, A = some ad ∧ w.cell? (ad.add (i.toNat * 2)) = some (.int .i64 (rdP xs i).1) ∧ w.cell? ⟨(ad.add (i.toNat * 2)).block, (ad.add (i.toNat * 2)).off + 1, none⟩ = some (.int .i64 (rdP xs i).2) := by
  obtain ⟨ad, c, e, _, hK, hc0⟩ := Kd.C_get h (0, 0) i h0 h1
  have hc : ∀ j u, c[j]? = some u → w.cell? (ad.add (i.toNat * 2 + j)) = some u := hc0
  obtain rfl := kP_open hK
  exact ⟨ad, e, hc 0 _ rfl, by rw [← add_field _ _ 1 (by omega)]; exact hc 1 _ rfl⟩
theorem dropP {α : Type} (xs : List α) (z : α) (i : Int) (h0 : 0 ≤ i) (h : i < xs.length) : xs.drop i.toNat = xs.getD i.toNat z :: xs.drop (i + 1).toNat := by
  have hl : i.toNat < xs.length := by omega
  rw [List.drop_eq_getElem_cons hl, show (i + 1).toNat = i.toNat + 1 by omega]
  simp [List.getD_eq_getElem?_getD, List.getElem?_eq_getElem hl]

def okMin (n : Int) : Bool := decide (0 ≤ n ∧ n ≤ 1073741824)
theorem minutes_any (w : World) (x : Int) : Calls Try.prog 51 #[.int .i64 x] w fun e w' => e = .returned (.bool (okMin x)) ∧ w = w' := by
  by_cases h0 : 0 ≤ x
  · by_cases h1 : x ≤ 1073741824
    · have hd : decide (0 ≤ x) = true := by simpa using h0
      go_enter Try.func51, Try.ntmps51
      go_wp2_with fail
      go_ret
      exact ⟨ret_bool (by simp [okMin, h0, h1]), rfl⟩
    · have hd : decide (0 ≤ x) = true := by simpa using h0
      go_enter Try.func51, Try.ntmps51
      go_wp2_with fail
      go_ret
      exact ⟨ret_bool (by simp [okMin, h0]; omega), rfl⟩
  · have hd : decide (0 ≤ x) = false := by simpa using h0
    go_enter Try.func51, Try.ntmps51
    go_wp2_with fail
    go_ret
    exact ⟨ret_bool (by simp [okMin]; omega), rfl⟩

theorem isNaN_any (w : World) (x : Int) : Calls Try.prog 72 #[.int .i64 x] w fun e w' => e = .returned (.bool false) ∧ w = w' := by
  go_enter Try.func72, Try.ntmps72
  go_wp2_with fail
  go_ret
  exact ⟨rfl, rfl⟩
def cmpI (x y : Int) : Int := if x < y then -1 else if y < x then 1 else 0
theorem compare_any (w : World) (x y : Int) : Calls Try.prog 55 #[.int .i64 x, .int .i64 y] w fun e w' => e = .returned (.int .i64 (cmpI x y)) ∧ w = w' := by
  have h1 := Aside0.mk (isNaN_any w)
  by_cases h : x < y
  · go_enter Try.func55, Try.ntmps55
    go_wp2_with ((with_reducible refine (h1.out _).mono ?_); rintro e w' ⟨rfl, rfl⟩)
    go_ret
    exact ⟨ret_int (by unfold cmpI; rw [if_pos h]), rfl⟩
  · by_cases k : y < x
    · go_enter Try.func55, Try.ntmps55
      go_wp2_with ((with_reducible refine (h1.out _).mono ?_); rintro e w' ⟨rfl, rfl⟩)
      go_ret
      exact ⟨ret_int (by unfold cmpI; rw [if_neg (by omega), if_pos (by omega)]), rfl⟩
    · go_enter Try.func55, Try.ntmps55
      go_wp2_with ((with_reducible refine (h1.out _).mono ?_); rintro e w' ⟨rfl, rfl⟩)
      go_ret
      exact ⟨ret_int (by unfold cmpI; rw [if_neg (by omega), if_neg (by omega)]), rfl⟩

def badD (d : Int × Int) : Bool := !okMin d.1 || !okMin d.2
def dumpsE (ds : List (Int × Int)) : Int := if 64 < ds.length then 3 else if ds.any badD then 2 else 0

set_option maxHeartbeats 1000000 in
theorem checked_any (w : World) (A : Option Addr) (c : Nat) (ds : List (Int × Int)) (h : kP.C w A ds.length ds) :
    Calls Try.prog 59 #[.slice A ds.length c] w fun e w' => e = .returned (.int .i64 (dumpsE ds)) ∧ Below w.heap.size w w' := by
  have hl := Kd.C_max h
  have HR := Aside0.mk h; clear h
  obtain ⟨e0, he0⟩ : ∃ z, z = dumpsE ds := ⟨_, rfl⟩
  rw [← he0]
  by_cases hlen : 64 < ds.length
  · unfold dumpsE at he0
    rw [if_pos hlen] at he0
    have hlen' : (64 : Int) < ds.length := by omega
    subst he0
    go_enter Try.func59, Try.ntmps59
    go_wp2_with fail
    go_ret
    exact ⟨rfl, Below.refl _ _⟩
  unfold dumpsE at he0
  rw [if_neg hlen] at he0
  have HE := Aside0.mk he0; clear he0
  go_enter Try.func59, Try.ntmps59
  go_wp2_with fail
  all_goals try (exfalso; omega)
  go_loopw [10] (fun v wr => ∃ i : Int, v = .int .i64 i ∧ 0 ≤ i ∧ i ≤ ds.length ∧ Aside0 ((ds.drop i.toNat).any badD = ds.any badD) ∧ Aside0 (Below w.heap.size w wr)) (fun v _ => ds.length - (intOf v).toNat)
  case atStart => exact ⟨0, rfl, by omega, by omega, ⟨rfl⟩, ⟨Below.refl _ _⟩⟩
  case round =>
    obtain ⟨i, rfl, h0, h1, he, hb⟩ := hrel
    by_cases hlt : i < ds.length
    · obtain ⟨ad, e1, g1, g2⟩ := at_P (Kd.C_below HR.out hb.out) i h0 hlt
      subst e1
      have h2 := he.out
      rw [dropP ds (0, 0) i h0 hlt, List.any_cons] at h2
      obtain ⟨x, hx⟩ : ∃ z, z = (rdP ds i).1 := ⟨_, rfl⟩
      obtain ⟨y, hy⟩ : ∃ z, z = (rdP ds i).2 := ⟨_, rfl⟩
      have hbd : badD (ds.getD i.toNat (0, 0)) = (!okMin x || !okMin y) := by rw [hx, hy]; rfl
      rw [← hx] at g1; rw [← hy] at g2
      rw [hbd] at h2
      have H2 := Aside0.mk h2; clear h2 hx hy hbd he
      have hm := Aside0.mk (fun W => minutes_any W)
      cases hox : okMin x with
      | false =>
        have hE : e0 = 2 := by
          have := H2.out
          rw [hox] at this
          rw [HE.out, ← this]; rfl
        subst hE
        have HX := Aside0.mk hox; clear hox
        go_wp2_with ((with_reducible refine (hm.out _ _).mono ?_); rintro e w' ⟨rfl, rfl⟩; try rw [HX.out])
        go_ret
        exact ⟨rfl, below_alloc hb.out _⟩
      | true =>
        cases hoy : okMin y with
        | false =>
          have hE : e0 = 2 := by
            have := H2.out
            rw [hoy] at this
            rw [HE.out, ← this]; simp
          subst hE
          have HX := Aside0.mk hox; clear hox
          have HY := Aside0.mk hoy; clear hoy
          go_wp2_with ((with_reducible refine (hm.out _ _).mono ?_); rintro e w' ⟨rfl, rfl⟩; first | rw [HX.out] | rw [HY.out])
          go_ret
          exact ⟨rfl, below_alloc hb.out _⟩
        | true =>
          have hE : (ds.drop (i + 1).toNat).any badD = ds.any badD := by
            have := H2.out
            rw [hox, hoy] at this
            rw [← this]; rfl
          have HF := Aside0.mk hE; clear hE
          have HX := Aside0.mk hox; clear hox
          have HY := Aside0.mk hoy; clear hoy
          go_wp2_with ((with_reducible refine (hm.out _ _).mono ?_); rintro e w' ⟨rfl, rfl⟩; first | rw [HX.out] | rw [HY.out])
          go_roundw
          case rel => exact ⟨i + 1, by go_num, by omega, by omega, HF, ⟨below_alloc hb.out _⟩⟩
          case measure => simp [intOf]; omega
    · have hE : e0 = 0 := by
        have := he.out
        rw [show i.toNat = ds.length by omega, List.drop_length] at this
        rw [HE.out, ← this]; rfl
      subst hE
      go_wp2_with fail
      go_ret
      exact ⟨rfl, hb.out⟩

/-- The numbers from 0 on. -/
def upto (n : Nat) : List Int := (List.range n).map fun (i : Nat) => (i : Int)
theorem upto_succ (n : Nat) : upto (n + 1) = upto n ++ [(n : Int)] := by unfold upto; rw [List.range_succ, List.map_append]; rfl
theorem upto_length (n : Nat) : (upto n).length = n := by simp [upto]

set_option maxHeartbeats 1000000 in
theorem rising_any (w : World) (n : Nat) (hn : n ≤ 100000) :
    Calls Try.prog 52 #[.int .i64 n] w fun e w' => ∃ g, e = .returned (.slice (some ⟨g, 0, none⟩) n n) ∧ w.heap.size ≤ g ∧ Below w.heap.size w w' ∧ Blk w' g (ints (upto n)) 3 := by
  have mk1 := print_make (P := Try.prog) 22 3 .i64 8 Try.underlying22 info3 (by decide) n (by omega)
  go_enter Try.func52, Try.ntmps52
  go_upto_region 2 with fail
  clear mk1
  have b1 := below_alloc (Below.refl w.heap.size w) (.cells (madeCells #[.int .i64 0] n) 3)
  have g1 : Blk (w.alloc (.cells (madeCells #[.int .i64 0] n) 3)) w.heap.size (ints (List.replicate n 0)) 3 := by
    rw [made_ints]; exact Blk.new _ _ _
  obtain ⟨w1, hw1⟩ : ∃ z, z = w.alloc (.cells (madeCells #[.int .i64 0] n) 3) := ⟨_, rfl⟩
  rw [← hw1] at b1 g1 ⊢
  have B1 := Aside0.mk b1; clear b1
  have G1 := Aside0.mk g1; clear g1 hw1
  go_wp2_with fail
  go_loopw [9] (fun v wr => ∃ i : Nat, v = .int .i64 i ∧ i ≤ n ∧ Aside0 (Below w.heap.size w wr) ∧ Aside0 (Blk wr w.heap.size (ints (upto i ++ List.replicate (n - i) 0)) 3)) (fun v _ => n - (intOf v).toNat)
  case atStart => exact ⟨0, rfl, by omega, B1, ⟨by simpa [upto] using G1.out⟩⟩
  case round =>
    obtain ⟨i, rfl, h1, hb, hg⟩ := hrel
    by_cases hlt : i < n
    · have hil : i < (upto i ++ List.replicate (n - i) 0).length := by simp [upto_length]; omega
      have f1 := hg.out.at_ (ints_get _ hil)
      have f2 := hg.out.free i
      go_wp2_with fail
      go_roundw
      case rel =>
        refine ⟨i + 1, by go_num, by omega, ⟨hb.out.setCell (Nat.le_refl _) _⟩, ⟨?_⟩⟩
        have := hg.out.set i (.int .i64 i)
        rw [ints_set] at this
        have e2 : (upto i ++ List.replicate (n - i) 0).set i (i : Int) = upto (i + 1) ++ List.replicate (n - (i + 1)) 0 := by
          rw [List.set_append_right _ _ (by rw [upto_length]; omega), upto_length, Nat.sub_self, show n - i = (n - (i + 1)) + 1 by omega, List.replicate_succ, List.set_cons_zero, upto_succ, List.append_assoc]
          rfl
        rwa [e2] at this
      case measure => simp [intOf]; omega
    · go_wp2_with fail
      go_ret
      refine ⟨_, rfl, Nat.le_refl _, hb.out, ?_⟩
      have := hg.out
      rw [show i = n by omega, Nat.sub_self] at this
      simpa using this

/-! ### The comparison of two dumps by Johnson's rule, and the insertion sort by whatever comparison. -/
/-- Johnson's comparison of two dumps. -/
def jcmp (a b : Int × Int) : Int :=
  if a.1 ≤ a.2 then (if b.1 ≤ b.2 then cmpI a.1 b.1 else -1) else if b.1 ≤ b.2 then 1 else cmpI b.2 a.2

section
variable (w : World) (c0 c1 : Array Value) (t0 t1 : TypeId)
theorem h2_0 : ((w.alloc (.cells c0 t0)).alloc (.cells c1 t1)).drew.heap[w.heap.size]? = some (.cells c0 t0 (0, 0)) := by
  show ((w.heap.push _).push _)[w.heap.size]? = _
  simp only [Array.getElem?_push, Array.size_push]
  repeat (first | rw [if_neg (by omega)] | rw [if_pos rfl] | rw [if_pos trivial])
theorem h2_1 : ((w.alloc (.cells c0 t0)).alloc (.cells c1 t1)).drew.heap[w.heap.size + 1]? = some (.cells c1 t1 (0, 0)) := by
  show ((w.heap.push _).push _)[w.heap.size + 1]? = _
  simp only [Array.getElem?_push, Array.size_push]
  repeat (first | rw [if_neg (by omega)] | rw [if_pos rfl] | rw [if_pos trivial])
theorem h2_b : Below w.heap.size w ((w.alloc (.cells c0 t0)).alloc (.cells c1 t1)).drew := below_drew (below_alloc (below_alloc (Below.refl _ _) _) _)
end

set_option maxHeartbeats 4000000 in
theorem jcmp_any (w : World) (A : Option Addr) (c b : Nat) (ds : List (Int × Int)) (h : kP.C w A ds.length ds) (hb : w.cell? ⟨b, 0, none⟩ = some (.slice A ds.length c)) (x y : Int) (hx : 0 ≤ x ∧ x < ds.length) (hy : 0 ≤ y ∧ y < ds.length) :
    Calls Try.prog 60 #[.int .i64 x, .int .i64 y, .pointer (some ⟨b, 0, none⟩)] w fun e w' => e = .returned (.int .i64 (jcmp (rdP ds x) (rdP ds y))) ∧ Below w.heap.size w w' := by
  obtain ⟨ad, e1, g1, g2⟩ := at_P h x hx.1 hx.2
  obtain ⟨ad2, e2, k1, k2⟩ := at_P h y hy.1 hy.2
  subst e1
  cases e2
  clear h
  obtain ⟨hx1, hx2⟩ := hx
  obtain ⟨hy1, hy2⟩ := hy
  generalize rdP ds x = p at *
  generalize rdP ds y = q at *
  obtain ⟨x1, x2⟩ := p
  obtain ⟨y1, y2⟩ := q
  dsimp only at g1 g2 k1 k2
  have al : ∀ {a : Addr} {v : Value} {W : World}, W.cell? a = some v → ∀ o, (W.alloc o).cell? a = some v := fun {a v W} h o => (World.cell?_alloc_lt W o a (World.block_lt_of_cell? W a h)).trans h
  have g1a := al g1
  have g2a := al g2
  have k1a := al k1
  have k2a := al k2
  have hba := al hb
  have g1b := fun o => al (g1a o)
  have g2b := fun o => al (g2a o)
  have k1b := fun o => al (k1a o)
  have k2b := fun o => al (k2a o)
  have hbb := fun o => al (hba o)
  clear al
  go_enter Try.func60, Try.ntmps60
  go_upto_region 1 with fail
  go_cut [6, 7] from 10 to 17 (fun a b w1 => ∃ p q : Nat, a = .pointer (some ⟨p, 0, none⟩) ∧ b = .pointer (some ⟨q, 0, none⟩) ∧ Aside0 (w1.heap[p]? = some (.cells #[.int .i64 x1, .int .i64 x2] 55 (0, 0)) ∧ w1.heap[q]? = some (.cells #[.int .i64 y1, .int .i64 y2] 55 (0, 0)) ∧ Below w.heap.size w w1))
  case first =>
    go_region
    all_goals go_wp2_with fail
    all_goals go_meet
    all_goals (case rel => exact ⟨_, _, rfl, rfl, ⟨by first | exact h2_0 .. | exact h2_1 .., by first | exact h2_0 .. | exact h2_1 .., h2_b ..⟩⟩)
  case rest =>
  obtain ⟨p, q, rfl, rfl, ⟨hp, hq, hbw⟩⟩ := hcut
  have B := Aside0.mk hbw; clear hbw
  have bp : Blk wc p [.int .i64 x1, .int .i64 x2] 55 := hp
  have bq : Blk wc q [.int .i64 y1, .int .i64 y2] 55 := hq
  have f1 := bp.at_ (i := 0) rfl
  have f2 := bp.at_ (i := 1) rfl
  have f3 := bq.at_ (i := 0) rfl
  have f4 := bq.at_ (i := 1) rfl
  clear bp bq hp hq g1 g2 k1 k2 hb g1a g2a k1a k2a hba g1b g2b k1b k2b hbb
  have hc := Aside0.mk (fun W => compare_any W)
  have HJ : Aside0 (jcmp (x1, x2) (y1, y2) = if x1 ≤ x2 then (if y1 ≤ y2 then cmpI x1 y1 else -1) else if y1 ≤ y2 then 1 else cmpI y2 x2) := ⟨rfl⟩
  by_cases c1 : x1 ≤ x2
  · have d1 : decide (x1 ≤ x2) = true := by simpa using c1
    by_cases c2 : y1 ≤ y2
    · have d2 : decide (y1 ≤ y2) = true := by simpa using c2
      go_wp2_with fail
      go_quiet (fail)
      go_wp2_with ((with_reducible refine (hc.out _ _ _).mono ?_); rintro e w' ⟨rfl, rfl⟩)
      go_ret
      exact ⟨ret_int (by rw [HJ.out, if_pos (by omega), if_pos (by omega)]), below_step B.out (bdN _ _)⟩
    · have d2 : decide (y1 ≤ y2) = false := by simpa using c2
      go_wp2_with fail
      go_quiet (fail)
      go_wp2_with fail
      go_ret
      exact ⟨ret_int (by rw [HJ.out, if_pos (by omega), if_neg (by omega)]), below_step B.out (bdN _ _)⟩
  · have d1 : decide (x1 ≤ x2) = false := by simpa using c1
    by_cases c2 : y1 ≤ y2
    · have d2 : decide (y1 ≤ y2) = true := by simpa using c2
      go_wp2_with fail
      go_quiet (fail)
      go_wp2_with fail
      go_ret
      exact ⟨ret_int (by rw [HJ.out, if_neg (by omega), if_pos (by omega)]), below_step B.out (bdN _ _)⟩
    · have d2 : decide (y1 ≤ y2) = false := by simpa using c2
      go_wp2_with fail
      go_quiet (fail)
      go_wp2_with ((with_reducible refine (hc.out _ _ _).mono ?_); rintro e w' ⟨rfl, rfl⟩)
      go_ret
      exact ⟨ret_int (by rw [HJ.out, if_neg (by omega), if_neg (by omega)]), below_step B.out (bdN _ _)⟩

/-! ### The insertion sort of the library, by whatever comparison that is a closure over one variable. -/
/-- One number more into what is sorted, the last one first: it goes ahead of all that are greater. -/
def insR (cf : Int → Int → Int) (x : Int) : List Int → List Int
  | [] => [x]
  | y :: l => if cf x y < 0 then y :: insR cf x l else x :: y :: l
def srtR (cf : Int → Int → Int) (l : List Int) : List Int := l.foldl (fun acc x => insR cf x acc) []
/-- The stable sort of a list by insertion. -/
def srt (cf : Int → Int → Int) (l : List Int) : List Int := (srtR cf l).reverse
theorem insR_length (cf : Int → Int → Int) (x : Int) : ∀ l, (insR cf x l).length = l.length + 1
  | [] => rfl
  | y :: l => by
    unfold insR
    split
    · simp [insR_length cf x l]
    · simp
theorem srtR_snoc (cf : Int → Int → Int) (l : List Int) (x : Int) : srtR cf (l ++ [x]) = insR cf x (srtR cf l) := by
  unfold srtR; rw [List.foldl_append]; rfl
theorem insR_mem (cf : Int → Int → Int) (x : Int) : ∀ l y, y ∈ insR cf x l ↔ y = x ∨ y ∈ l
  | [], y => by simp [insR]
  | z :: l, y => by
    unfold insR
    split
    · rw [List.mem_cons, insR_mem cf x l y, List.mem_cons]
      constructor
      · rintro (h | h | h)
        · exact .inr (.inl h)
        · exact .inl h
        · exact .inr (.inr h)
      · rintro (h | h | h)
        · exact .inr (.inl h)
        · exact .inl h
        · exact .inr (.inr h)
    · rw [List.mem_cons]

/-- What a comparison closure over the variable at block b answers, wherever I holds. -/
structure CmpC (k b : Nat) (I : World → Prop) (cf : Int → Int → Int) (dom : Int → Prop) (g : Nat) : Prop where
  en : ∀ (args : Array Value) (W : World), (callFunc k args).run Try.prog W = .ok (.enter k args) W
  calls : ∀ (W : World) (x y : Int), I W → dom x → dom y → Calls Try.prog k #[.int .i64 x, .int .i64 y, .pointer (some ⟨b, 0, none⟩)] W fun e w' => e = .returned (.int .i64 (cf x y)) ∧ Below W.heap.size W w'
  keep : ∀ W W', I W → Kp (fun i => i = g) W W' → I W'

theorem two_at (P Q : List Int) (x y : Int) : (P ++ y :: x :: Q).getD P.length 0 = y ∧ (P ++ y :: x :: Q).getD (P.length + 1) 0 = x ∧ ((P ++ y :: x :: Q).set (P.length + 1) y).set P.length x = P ++ x :: y :: Q := by
  refine ⟨?_, ?_, ?_⟩
  · simp [List.getD_eq_getElem?_getD]
  · simp [List.getD_eq_getElem?_getD]
  · rw [List.set_append_right _ _ (by omega), List.set_append_right _ _ (by omega)]
    simp

/-- The data while the number x goes down. -/
def midD (xs : List Int) (lo i : Nat) (At Bt : List Int) (x : Int) : List Int := xs.take lo ++ (At.reverse ++ x :: (Bt.reverse ++ xs.drop (i + 1)))

set_option maxHeartbeats 8000000 in
set_option maxRecDepth 100000 in
theorem isort_any {k b g : Nat} {I : World → Prop} {cf : Int → Int → Int} {dom : Int → Prop} (hC : CmpC k b I cf dom g) (xs : List Int) (hx : ∀ x ∈ xs, dom x) (w : World) (hg : Blk w g (ints xs) 3) (hI : I w) (lo hi : Nat) (hlh : lo ≤ hi) (hh : hi ≤ xs.length) (n c : Nat) (hn : xs.length ≤ n) (hn2 : n ≤ 1000000) :
    Calls Try.prog 79 #[.slice (some ⟨g, 0, none⟩) n c, .int .i64 lo, .int .i64 hi, .func (.func k) #[] #[.pointer (some ⟨b, 0, none⟩)]] w
      fun e w' => e = .returned (.tuple #[]) ∧ Kp (fun i => i = g) w w' ∧ Blk w' g (ints (xs.take lo ++ (srt cf ((xs.drop lo).take (hi - lo)) ++ xs.drop hi))) 3 := by
  have hen := hC.en
  have HC := Aside0.mk hC; clear hC
  have HX := Aside0.mk hx; clear hx
  have HG := Aside0.mk hg; clear hg
  have HI := Aside0.mk hI; clear hI
  go_enter Try.func79, Try.ntmps79
  go_wp2_with fail
  go_loopw [8] (fun v wr => ∃ i : Nat, v = .int .i64 i ∧ lo + 1 ≤ i ∧ (i ≤ hi ∨ i = lo + 1) ∧ Aside0 (Kp (fun i => i = g) w wr) ∧ Aside0 (Blk wr g (ints (xs.take lo ++ (srt cf ((xs.drop lo).take (min i hi - lo)) ++ xs.drop (min i hi)))) 3)) (fun v _ => hi - (intOf v).toNat)
  case atStart =>
    refine ⟨lo + 1, by go_num, by omega, by omega, ⟨Kp.refl _ _⟩, ⟨?_⟩⟩
    have e : xs.take lo ++ (srt cf ((xs.drop lo).take (min (lo + 1) hi - lo)) ++ xs.drop (min (lo + 1) hi)) = xs := by
      rcases Nat.lt_or_ge lo hi with h | h
      · rw [show min (lo + 1) hi = lo + 1 by omega, show lo + 1 - lo = 1 by omega, List.drop_eq_getElem_cons (show lo < xs.length by omega), List.take_succ_cons, List.take_zero]
        show xs.take lo ++ ([xs[lo]] ++ xs.drop (lo + 1)) = xs
        rw [List.singleton_append, ← List.drop_eq_getElem_cons, List.take_append_drop]
      · rw [show min (lo + 1) hi = lo by omega, Nat.sub_self, List.take_zero]
        show xs.take lo ++ ([] ++ xs.drop lo) = xs
        rw [List.nil_append, List.take_append_drop]
    rw [e]; exact HG.out
  case round =>
    obtain ⟨i, rfl, hi1, hi2, hk, hb⟩ := hrel
    by_cases hlt : i < hi
    · have hil : i < xs.length := by omega
      obtain ⟨x, hxx⟩ : ∃ z, z = xs[i] := ⟨_, rfl⟩
      obtain ⟨R, hR⟩ : ∃ z, z = srtR cf ((xs.drop lo).take (i - lo)) := ⟨_, rfl⟩
      have hRl : R.length = i - lo := by
        rw [hR]
        have key : ∀ (l : List Int) (acc : List Int), (l.foldl (fun acc x => insR cf x acc) acc).length = acc.length + l.length := by
          intro l
          induction l with
          | nil => intro acc; simp
          | cons a l ih => intro acc; rw [List.foldl_cons, ih, insR_length]; simp; omega
        rw [srtR, key]; simp; omega
      have hRd : ∀ y ∈ R, dom y := by
        have key : ∀ (l : List Int) (acc : List Int), ∀ y ∈ l.foldl (fun acc x => insR cf x acc) acc, y ∈ acc ∨ y ∈ l := by
          intro l
          induction l with
          | nil => intro acc y hy; exact .inl hy
          | cons a l ih =>
            intro acc y hy
            rw [List.foldl_cons] at hy
            rcases ih _ y hy with h | h
            · rcases (insR_mem cf a acc y).1 h with rfl | h
              · exact .inr List.mem_cons_self
              · exact .inl h
            · exact .inr (List.mem_cons_of_mem _ h)
        intro y hy
        rw [hR] at hy
        rcases key _ _ y hy with h | h
        · simp at h
        · exact HX.out y (List.mem_of_mem_drop (List.mem_of_mem_take h))
      have hxd : dom x := HX.out x (by rw [hxx]; exact List.getElem_mem hil)
      have hb0 : Blk wr g (ints (midD xs lo i R [] x)) 3 := by
        have := hb.out
        rw [show min i hi = i by omega, srt, ← hR, List.drop_eq_getElem_cons hil, ← hxx] at this
        exact this
      have hseg : srt cf ((xs.drop lo).take (i + 1 - lo)) = (insR cf x R).reverse := by
        rw [show i + 1 - lo = (i - lo) + 1 by omega, List.take_succ_eq_append_getElem (by simp; omega), srt, srtR_snoc, ← hR, hxx]
        simp [show lo + (i - lo) = i by omega]
      have HSEG := Aside0.mk hseg; clear hseg hxx hR
      have HRD := Aside0.mk hRd; clear hRd
      have HXD := Aside0.mk hxd; clear hxd
      have HB0 := Aside0.mk hb0; clear hb0 hb
      go_wp2_with fail
      go_loopw [9] (fun v w2 => ∃ (J : Int) (At Bt : List Int), v = .int .i64 J ∧ Aside0 (J = (lo + At.length : Nat)) ∧ lo ≤ J ∧ J ≤ i ∧ At.length + Bt.length = i - lo ∧ Aside0 (Kp (fun i => i = g) w w2) ∧ Aside0 (Blk w2 g (ints (midD xs lo i At Bt x)) 3) ∧ Aside0 (∀ y ∈ At, dom y) ∧ Aside0 (insR cf x R = Bt ++ insR cf x At)) (fun v _ => (intOf v).toNat)
      case atStart => exact ⟨i, R, [], rfl, ⟨by omega⟩, by omega, by omega, by simp; omega, hk, HB0, HRD, ⟨rfl⟩⟩
      case round =>
        obtain ⟨J, At, Bt, rfl, hJ, hJ0, hJ1, hlen, hk2, hb2, hd2, hins⟩ := hrel
        cases At with
        | nil =>
          have hJl : ¬ (lo : Int) < J := by have := hJ.out; simp at this; omega
          have hd : decide ((lo : Int) < J) = false := by simpa using hJl
          have hfin : Aside0 (Blk wr g (ints (xs.take lo ++ (srt cf ((xs.drop lo).take (min (i + 1) hi - lo)) ++ xs.drop (min (i + 1) hi)))) 3) := by
            refine ⟨?_⟩
            have := hb2.out
            rw [show min (i + 1) hi = i + 1 by omega, HSEG.out, hins.out]
            unfold midD at this
            simpa [insR] using this
          clear hb2 hins
          go_wp2_with fail
          go_quiet (fail)
          go_wp2_with fail
          go_roundw
          case rel => exact ⟨i + 1, by go_num, by omega, by omega, ⟨hk2.out.drewN _⟩, ⟨hfin.out.drewN _⟩⟩
          case measure => simp [intOf]; omega
        | cons y A =>
          obtain ⟨P, hP⟩ : ∃ z, z = xs.take lo ++ A.reverse := ⟨_, rfl⟩
          obtain ⟨Q, hQ⟩ : ∃ z, z = Bt.reverse ++ xs.drop (i + 1) := ⟨_, rfl⟩
          have hPl : P.length = lo + A.length := by rw [hP]; simp; omega
          have hmid : midD xs lo i (y :: A) Bt x = P ++ y :: x :: Q := by unfold midD; rw [hP, hQ]; simp
          have hmid2 : midD xs lo i A (Bt ++ [y]) x = P ++ x :: y :: Q := by unfold midD; rw [hP, hQ]; simp
          have hb3 := hb2.out
          rw [hmid] at hb3
          have hJP : J = P.length + 1 := by have := hJ.out; simp at this; omega
          have t := two_at P Q x y
          have hPn : P.length + 1 < (P ++ y :: x :: Q).length := by simp
          have hJl : (lo : Int) < J := by omega
          have hlA : A.length + 1 + Bt.length = i - lo := by simpa using hlen
          have hJA : J - 1 = (lo + A.length : Nat) := by omega
          have c1 : wr.cell? ⟨g, J.toNat, none⟩ = some (.int .i64 x) := by
            rw [show J.toNat = P.length + 1 by omega]
            have := hb3.at_ (ints_get _ hPn)
            rwa [t.2.1] at this
          have c2 : wr.cell? ⟨g, (J - 1).toNat, none⟩ = some (.int .i64 y) := by
            rw [show (J - 1).toNat = P.length by omega]
            have := hb3.at_ (ints_get _ (show P.length < (P ++ y :: x :: Q).length by omega))
            rwa [t.1] at this
          have hJn : J < n := by have : xs.length ≤ n := hn; omega
          have hins2 : insR cf x (y :: A) = if cf x y < 0 then y :: insR cf x A else x :: y :: A := rfl
          have hyd : dom y := hd2.out y List.mem_cons_self
          have hAd : ∀ z ∈ A, dom z := fun z hz => hd2.out z (List.mem_cons_of_mem _ hz)
          have hIr : I wr := HC.out.keep _ _ HI.out hk2.out
          have T := Aside0.mk t; clear t
          have HP := Aside0.mk (And.intro hP (And.intro hQ (And.intro hPl (And.intro hmid2 (And.intro hJP (And.intro hJA (And.intro hlA hins2))))))); clear hP hQ hPl hmid hmid2 hJP hJA hlA hins2 hlen hJ
          have HAD := Aside0.mk hAd; clear hAd
          have HB3 := Aside0.mk hb3; clear hb3 hb2 hd2
          have HPN := Aside0.mk hPn; clear hPn
          have HCL := Aside0.mk (fun W hW => HC.out.calls W x y hW HXD.out hyd); clear hyd
          have hd : decide ((lo : Int) < J) = true := by simpa using hJl
          go_upto_region 4 with fail
          go_cut [34] from 18 to 52 (fun a w3 => a = .bool (decide (cf x y < 0)) ∧ Aside0 (Below wr.heap.size wr w3))
          case first =>
            have c2b : wr.cell? ⟨g, J.toNat - 1, none⟩ = some (.int .i64 y) := by
              rw [show J.toNat - 1 = (J - 1).toNat by omega]; exact c2
            have j0 : 0 ≤ J := by omega
            have j1 : 1 ≤ J := by omega
            have j2 : 0 ≤ J - 1 := by omega
            have j3 : J - 1 < n := by omega
            have j4 : IntKind.i64.wrap (J - 1) = J - 1 := IntWalk.i64_in _ (by omega)
            go_still_tail 14, (by kernel_rfl)
            clear j4
            change wpList _ _ _ _ _ wr.drew
            go_wp2_with ((with_reducible refine (HCL.out _ ?_).mono ?_); (first | exact HC.out.keep _ _ hIr ((Kp.refl _ _).drew) | exact hIr); rintro e5 w5 ⟨rfl, hb5⟩)
            go_meet
            case rel => exact ⟨rfl, ⟨below_step (below_drew (Below.refl _ _)) hb5⟩⟩
          case rest =>
          obtain ⟨rfl, ⟨hb4⟩⟩ := hcut
          have hb5 := HB3.out.below hb4
          have hk5 := hk2.out.then_below hb4
          obtain ⟨hP, hQ, hPl, hmid2, hJP, hJA, hlA, hins2⟩ := HP.out
          clear c1 c2 hIr HCL HB3 hb4 hk2 hd
          have HK5 := Aside0.mk hk5; clear hk5
          have HB5 := Aside0.mk hb5; clear hb5
          by_cases hlt0 : cf x y < 0
          · have c1 : wc.cell? ⟨g, J.toNat, none⟩ = some (.int .i64 x) := by
              rw [show J.toNat = P.length + 1 by omega]
              have := HB5.out.at_ (ints_get _ HPN.out)
              rwa [T.out.2.1] at this
            have c2 : wc.cell? ⟨g, J.toNat - 1, none⟩ = some (.int .i64 y) := by
              rw [show J.toNat - 1 = P.length by omega]
              have := HB5.out.at_ (ints_get _ (show P.length < (P ++ y :: x :: Q).length by have := HPN.out; omega))
              rwa [T.out.1] at this
            have c2b : wc.cell? ⟨g, (J - 1).toNat, none⟩ = some (.int .i64 y) := by
              rw [show (J - 1).toNat = J.toNat - 1 by omega]; exact c2
            have fr := HB5.out.free
            have j1 : 1 ≤ J := by omega
            have j3 : J - 1 < n := by omega
            have hnew : Aside0 (Blk ((wc.setCell ⟨g, J.toNat, none⟩ (.int .i64 y)).setCell ⟨g, J.toNat - 1, none⟩ (.int .i64 x)) g (ints (midD xs lo i A (Bt ++ [y]) x)) 3) := by
              refine ⟨?_⟩
              rw [hmid2, show J.toNat = P.length + 1 by omega, show P.length + 1 - 1 = P.length by omega, ← T.out.2.2, ← ints_set, ← ints_set]
              exact (HB5.out.set _ _).set _ _
            have hnew2 : Aside0 (Blk ((wc.setCell ⟨g, J.toNat - 1, none⟩ (.int .i64 x)).setCell ⟨g, J.toNat, none⟩ (.int .i64 y)) g (ints (midD xs lo i A (Bt ++ [y]) x)) 3) := by
              refine ⟨?_⟩
              rw [hmid2, show J.toNat = P.length + 1 by omega, show P.length + 1 - 1 = P.length by omega, ← T.out.2.2, List.set_comm _ _ (by omega), ← ints_set, ← ints_set]
              exact (HB5.out.set _ _).set _ _
            have hins3 : Aside0 (insR cf x R = (Bt ++ [y]) ++ insR cf x A) := ⟨by rw [hins.out, hins2, if_pos hlt0]; simp⟩
            have HP2 := Aside0.mk (And.intro hJA hlA)
            clear hP hQ hPl hmid2 hJP hJA hlA hins2 HP T HPN hins HB5
            go_upto_region 6 with fail
            go_region
            go_wp2_with fail
            go_roundw
            case rel => exact ⟨J - 1, A, Bt ++ [y], by go_num, ⟨HP2.out.1⟩, by have := HP2.out.1; omega, by omega, by have := HP2.out.2; simp; omega, ⟨((HK5.out.setCell (fun _ => rfl) _).setCell (fun _ => rfl) _).drew⟩, (by first | exact ⟨hnew.out.drew⟩ | exact ⟨hnew2.out.drew⟩), HAD, hins3⟩
            case measure => simp [intOf]; omega
          · have hd : decide (cf x y < 0) = false := by simpa using hlt0
            have hfin : Aside0 (Blk wc g (ints (xs.take lo ++ (srt cf ((xs.drop lo).take (min (i + 1) hi - lo)) ++ xs.drop (min (i + 1) hi)))) 3) := by
              refine ⟨?_⟩
              have := HB5.out
              rw [show min (i + 1) hi = i + 1 by omega, HSEG.out, hins.out, hins2, if_neg hlt0]
              rw [hP, hQ] at this
              simpa using this
            clear hP hQ hPl hmid2 hJP hJA hlA hins2 HP T HPN hins HB5 hlt0
            rw [hd]
            go_wp2_with fail
            go_roundw
            case rel => exact ⟨i + 1, by go_num, by omega, by omega, HK5, hfin⟩
            case measure => simp [intOf]; omega
    · go_wp2_with fail
      go_end0
      refine ⟨rfl, hk.out, ?_⟩
      have := hb.out
      rwa [show min i hi = hi by omega] at this

end Go.Proofs.Ytnoocdobldchoaa
