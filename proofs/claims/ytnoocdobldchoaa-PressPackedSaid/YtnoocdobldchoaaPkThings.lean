/- The checks of masses and boxes: what the program's functions answer. -/
import Derived.Test.YtnoocdobldchoaaProg
import Derived.Test.YtnoocdobldchoaaPk
import Derived.Test.YtnoocdobldchoaaWMore
import Derived.WalkKit
import Derived.KernelRfl
import Derived.Deep.QuietTactic
import Derived.BigQuiet
import Derived.BigRegion
import Derived.RegionTactic
import Derived.Lib.Hide
import Derived.Deep.DeepCutAuto
import Derived.Deep.CutBlock
import Derived.Outline
namespace Go.Proofs.Ytnoocdobldchoaa
open Go.RowKit Go.Proofs.YtnoocdobldchoaaW.PrintWords Go.Proofs.YtnoocdobldchoaaW.PrintMore

theorem things1_any (w : World) (x most : Int) (b : Nat) (h : w.cell? ⟨b, 0, none⟩ = some (.int .i64 most)) :
    Calls Try.prog 67 #[.int .i64 x, .pointer (some ⟨b, 0, none⟩)] w fun e w' => e = .returned (.bool (decide (most < x))) ∧ w = w' := by
  go_enter Try.func67, Try.ntmps67
  go_wp2_with fail
  go_ret
  exact ⟨rfl, rfl⟩

/-- The first index, from i on, at which p holds; -1 if there is none. -/
def idxFrom (p : Int → Bool) (i : Int) : List Int → Int
  | [] => -1
  | x :: xs => if p x then i else idxFrom p (i + 1) xs
theorem idxFrom_hit {p : Int → Bool} {i x : Int} {xs : List Int} (h : p x = true) : idxFrom p i (x :: xs) = i := by unfold idxFrom; rw [if_pos h]
theorem idxFrom_miss {p : Int → Bool} {i x : Int} {xs : List Int} (h : p x = false) : idxFrom p i (x :: xs) = idxFrom p (i + 1) xs := by
  rw [idxFrom, if_neg (by simp [h])]
theorem ret_int {k : IntKind} {a b : Int} (h : a = b) : Ending.returned (.int k a) = .returned (.int k b) := by rw [h]
theorem ret_bool {a b : Bool} (h : a = b) : Ending.returned (.bool a) = .returned (.bool b) := by rw [h]
theorem idxFrom_any (p : Int → Bool) : ∀ (xs : List Int) (i : Int), 0 ≤ i → (0 ≤ idxFrom p i xs ↔ xs.any p = true) := by
  intro xs
  induction xs with
  | nil => intro i _; simp [idxFrom]
  | cons x xs ih =>
    intro i h
    unfold idxFrom
    by_cases hp : p x = true
    · simp [hp, h]
    · simp only [hp, if_false, List.any_cons, Bool.false_or]
      simpa [hp] using ih (i + 1) (by omega)
theorem drop_rd (xs : List Int) (i : Int) (h0 : 0 ≤ i) (h : i < xs.length) : xs.drop i.toNat = rd xs i :: xs.drop (i + 1).toNat := by
  have hl : i.toNat < xs.length := by omega
  rw [List.drop_eq_getElem_cons hl, show (i + 1).toNat = i.toNat + 1 by omega]
  simp [rd, List.getD_eq_getElem?_getD, List.getElem?_eq_getElem hl]

set_option maxHeartbeats 400000 in
theorem indexFunc_any (w : World) (A : Option Addr) (c : Nat) (xs : List Int) (h : (Kd.int .i64).C w A xs.length xs) (b : Nat) (p : Int → Bool)
    (hp : ∀ x, Calls Try.prog 67 #[.int .i64 x, .pointer (some ⟨b, 0, none⟩)] w fun e w' => e = .returned (.bool (p x)) ∧ w = w') :
    Calls Try.prog 78 #[.slice A xs.length c, .func (.func 67) #[] #[.pointer (some ⟨b, 0, none⟩)]] w fun e w' => e = .returned (.int .i64 (idxFrom p 0 xs)) ∧ w = w' := by
  have hl := Kd.C_max h
  have HR := Aside0.mk h; clear h
  have HP := Aside0.mk hp; clear hp
  go_enter Try.func78, Try.ntmps78
  go_wp2_with fail
  go_loop [8] (fun v => ∃ i : Int, v = .int .i64 i ∧ 0 ≤ i ∧ i ≤ xs.length ∧ Aside0 (idxFrom p i (xs.drop i.toNat) = idxFrom p 0 xs)) (fun v => xs.length - (intOf v).toNat)
  case atStart => exact ⟨0, rfl, by omega, by omega, ⟨rfl⟩⟩
  case round =>
    obtain ⟨i, rfl, h0, h1, he⟩ := hrel
    by_cases hlt : i < xs.length
    · obtain ⟨ad, e1, g3⟩ := Kd.at_int HR.out i h0 hlt
      subst e1
      go_wp2_with ((with_reducible refine (HP.out _).mono ?_); rintro e5 w5 ⟨rfl, rfl⟩)
      · rename_i hb
        go_ret
        have := he.out
        rw [drop_rd xs i h0 hlt, idxFrom_hit hb] at this
        exact ⟨ret_int this, rfl⟩
      · rename_i hb
        go_round
        case rel =>
          have := he.out
          rw [drop_rd xs i h0 hlt, idxFrom_miss hb] at this
          exact ⟨i + 1, by go_num, by omega, by omega, ⟨this⟩⟩
        case measure => simp [intOf]; omega
    · go_wp2_with fail
      go_ret
      have := he.out
      rw [show i.toNat = xs.length by omega, List.drop_length] at this
      exact ⟨ret_int this, rfl⟩

theorem containsFunc_any (w : World) (A : Option Addr) (c : Nat) (xs : List Int) (h : (Kd.int .i64).C w A xs.length xs) (b : Nat) (p : Int → Bool)
    (hp : ∀ x, Calls Try.prog 67 #[.int .i64 x, .pointer (some ⟨b, 0, none⟩)] w fun e w' => e = .returned (.bool (p x)) ∧ w = w') :
    Calls Try.prog 66 #[.slice A xs.length c, .func (.func 67) #[] #[.pointer (some ⟨b, 0, none⟩)]] w fun e w' => e = .returned (.bool (xs.any p)) ∧ w = w' := by
  have hi := Aside0.mk (indexFunc_any w A c xs h b p hp)
  clear hp h
  go_enter Try.func66, Try.ntmps66
  go_wp2_with ((with_reducible refine hi.out.mono ?_); rintro e5 w5 ⟨rfl, rfl⟩)
  go_ret
  have := idxFrom_any p xs 0 (by omega)
  exact ⟨ret_bool (by rw [Bool.eq_iff_iff, ← this]; simp), rfl⟩

/-- The error of masses and boxes. -/
def thingsE (ms : List Int) (most each : Int) : Int :=
  if 12 < ms.length then 3 else if most < 1 ∨ 1073741824 < most ∨ each < 1 ∨ 12 < each then 2
  else if ms.any (fun m => decide (m < 1) || decide (1073741824 < m)) then 2
  else if ms.any (fun m => decide (most < m)) then 13 else 0

set_option maxHeartbeats 1000000 in
theorem things_any (w : World) (A : Option Addr) (c : Nat) (ms : List Int) (most each : Int) (h : (Kd.int .i64).C w A ms.length ms) :
    Calls Try.prog 40 #[.slice A ms.length c, .int .i64 most, .int .i64 each] w fun e w' => e = .returned (.int .i64 (thingsE ms most each)) ∧ Below w.heap.size w w' := by
  have hl := Kd.C_max h
  have hb := below_alloc (Below.refl w.heap.size w) (.cells #[.int .i64 most] 3)
  have HR := Aside0.mk (Kd.C_below h hb)
  have b0 := Blk.new w [.int .i64 most] 3
  have hc0 := b0.at_ (i := 0) rfl
  have hw0 := b0.lt
  clear h b0
  obtain ⟨e0, he0⟩ : ∃ z, z = thingsE ms most each := ⟨_, rfl⟩
  rw [← he0]
  by_cases hlen : 12 < ms.length
  · unfold thingsE at he0
    rw [if_pos hlen] at he0
    have hlen' : (12 : Int) < ms.length := by omega
    subst he0
    go_enter Try.func40, Try.ntmps40
    go_wp2_with fail
    go_ret
    exact ⟨rfl, hb⟩
  by_cases hp : most < 1 ∨ 1073741824 < most ∨ each < 1 ∨ 12 < each
  · unfold thingsE at he0
    rw [if_neg hlen, if_pos hp] at he0
    subst he0
    go_enter Try.func40, Try.ntmps40
    go_wp2_with fail
    all_goals first | (exfalso; omega) | (go_ret; exact ⟨rfl, hb⟩)
  have HE := Aside0.mk he0; clear he0
  go_enter Try.func40, Try.ntmps40
  go_wp2_with fail
  all_goals try (exfalso; omega)
  go_loop [28] (fun v => ∃ i : Int, v = .int .i64 i ∧ 0 ≤ i ∧ i ≤ ms.length ∧ Aside0 ((ms.drop i.toNat).any (fun m => decide (m < 1) || decide (1073741824 < m)) = ms.any (fun m => decide (m < 1) || decide (1073741824 < m)))) (fun v => ms.length - (intOf v).toNat)
  case atStart => exact ⟨0, rfl, by omega, by omega, ⟨rfl⟩⟩
  case round =>
    obtain ⟨i, rfl, h0, h1, he⟩ := hrel
    by_cases hlt : i < ms.length
    · obtain ⟨ad, e1, g3⟩ := Kd.at_int HR.out i h0 hlt
      subst e1
      by_cases hbad : rd ms i < 1 ∨ 1073741824 < rd ms i
      · have hE : e0 = 2 := by
          have h2 := he.out
          rw [drop_rd ms i h0 hlt, List.any_cons] at h2
          rw [HE.out]; unfold thingsE
          rw [if_neg hlen, if_neg hp, ← h2, if_pos]
          simp only [Bool.or_eq_true, decide_eq_true_eq]
          exact .inl hbad
        subst hE
        go_wp2_with fail
        all_goals first | (exfalso; omega) | (go_ret; exact ⟨rfl, hb⟩)
      · go_wp2_with fail
        all_goals try (exfalso; omega)
        go_round
        case rel =>
          refine ⟨i + 1, by go_num, by omega, by omega, ⟨?_⟩⟩
          rw [← he.out, drop_rd ms i h0 hlt, List.any_cons]
          have e1 : decide (rd ms i < 1) = false := by simp; omega
          have e2 : decide (1073741824 < rd ms i) = false := by simp; omega
          rw [e1, e2]; rfl
        case measure => simp [intOf]; omega
    · have hE : e0 = if ms.any (fun m => decide (most < m)) then 13 else 0 := by
        have h2 := he.out
        rw [show i.toNat = ms.length by omega, List.drop_length] at h2
        rw [HE.out]; unfold thingsE
        rw [if_neg hlen, if_neg hp, ← h2, if_neg (by simp)]
      have hcf := Aside0.mk (containsFunc_any _ A c ms HR.out w.heap.size (fun m => decide (most < m)) (fun x => things1_any _ x most _ hc0))
      clear HE he
      have HE := Aside0.mk hE; clear hE
      cases ha : ms.any (fun m => decide (most < m)) with
      | true =>
        go_wp2_with ((with_reducible refine hcf.out.mono ?_); rintro e5 w5 ⟨rfl, rfl⟩)
        go_ret
        exact ⟨ret_int (by rw [HE.out, ha]; rfl), hb⟩
      | false =>
        go_wp2_with ((with_reducible refine hcf.out.mono ?_); rintro e5 w5 ⟨rfl, rfl⟩)
        go_ret
        exact ⟨ret_int (by rw [HE.out, ha]; rfl), hb⟩
end Go.Proofs.Ytnoocdobldchoaa
