/- What the check of a packing computes, and that it holds of exactly the packings. -/
import Derived.Test.YtnoocdobldchoaaBest
namespace Go.Proofs.Ytnoocdobldchoaa
open Go.RowKit Go.Proofs.YtnoocdobldchoaaW.PrintWords Go.Proofs.YtnoocdobldchoaaW.PrintMore Go.Proofs.YtnoocdobldchoaaW.PrintLast

/-- One thing after another into the named box; the contents and the number of boxes. -/
def scanF (most each L : Int) : List Int → List Int → (Nat → Int × Int) → Int → Option ((Nat → Int × Int) × Int)
  | m :: ms, b :: at', f, n => if b < 0 ∨ L ≤ b then none else if most < (f b.toNat).1 + m ∨ each < (f b.toNat).2 + 1 then none else scanF most each L ms at' (put f b.toNat m) (max n (b + 1))
  | _, _, f, n => some (f, n)
/-- No box below n is empty. -/
def fullB (f : Nat → Int × Int) (n : Int) : Bool := (List.range n.toNat).all fun j => !((f j).2 == 0)
def packedF (ms at' : List Int) (most each : Int) : Int × Bool :=
  if at'.length ≠ ms.length then (0, false) else
  match scanF most each at'.length ms at' zf 0 with
  | none => (0, false)
  | some (f, n) => if fullB f n = true then (n, true) else (0, false)

variable {most each L : Int}
/-- What was scanned is a packing. -/
theorem scanF_free : ∀ (ms at' : List Int) (f : Nat → Int × Int) (n : Int) (f' : Nat → Int × Int) (n' : Int), at'.length = ms.length → scanF most each L ms at' f n = some (f', n') →
    n ≤ n' ∧ (∀ k : Int, n' ≤ k → Free most each k ms f at') ∧ (∀ b ∈ at', b < n') := by
  intro ms
  induction ms with
  | nil =>
    intro at' f n f' n' hl h
    have : at' = [] := List.eq_nil_of_length_eq_zero hl
    subst this
    unfold scanF at h
    injection h with h
    injection h with h1 h2
    exact ⟨by omega, fun _ _ => rfl, fun b hb => by simp at hb⟩
  | cons m ms ih =>
    intro at' f n f' n' hl h
    cases at' with
    | nil => simp at hl
    | cons b at' =>
      unfold scanF at h
      by_cases h1 : b < 0 ∨ L ≤ b
      · rw [if_pos h1] at h; cases h
      · rw [if_neg h1] at h
        by_cases h2 : most < (f b.toNat).1 + m ∨ each < (f b.toNat).2 + 1
        · rw [if_pos h2] at h; cases h
        · rw [if_neg h2] at h
          obtain ⟨i1, i2, i3⟩ := ih at' _ _ f' n' (by simpa using hl) h
          refine ⟨by omega, fun k hk => ⟨b.toNat, at', by rw [Int.toNat_of_nonneg (by omega)], by omega, by omega, by omega, i2 k hk⟩, fun x hx => ?_⟩
          rcases List.mem_cons.1 hx with rfl | hx
          · omega
          · exact i3 x hx
/-- A packing is scanned; each box below the bound bears something, if each new box is the lowest. -/
theorem scanF_way : ∀ (ms at' : List Int) (f : Nat → Int × Int) (n k : Int), Way most each k ms n f at' → k ≤ L → 0 ≤ n → n ≤ k → (∀ j : Nat, 0 ≤ (f j).2 ∧ ((j : Int) < n → 1 ≤ (f j).2)) →
    ∃ f' n', scanF most each L ms at' f n = some (f', n') ∧ n ≤ n' ∧ n' ≤ k ∧ ∀ j : Nat, 0 ≤ (f' j).2 ∧ ((j : Int) < n' → 1 ≤ (f' j).2) := by
  intro ms
  induction ms with
  | nil =>
    intro at' f n k h hk h0 hn hf
    have : at' = [] := h
    subst this
    exact ⟨f, n, rfl, by omega, hn, hf⟩
  | cons m ms ih =>
    intro at' f n k h hk h0 hn hf
    obtain ⟨b, l', rfl, hb1, hb2, hb3, hb4, hb5⟩ := h
    unfold scanF
    rw [if_neg (by omega), Int.toNat_natCast, if_neg (by omega)]
    obtain ⟨f', n', e1, e2, e3, e4⟩ := ih l' (put f b m) (max n (b + 1)) k hb5 hk (by omega) (by omega) (fun j => by
      have := hf j
      unfold put
      split
      · rename_i hj; subst hj; dsimp only; omega
      · rename_i hj; omega)
    exact ⟨f', n', e1, by omega, e3, e4⟩
theorem fullB_of {f : Nat → Int × Int} {n : Int} (h : ∀ j : Nat, (j : Int) < n → 1 ≤ (f j).2) : fullB f n = true := by
  unfold fullB
  rw [List.all_eq_true]
  intro j hj
  have := h j (by have := List.mem_range.1 hj; omega)
  simp only [Bool.not_eq_true', beq_eq_false_iff_ne]
  omega
/-- The best packing passes, with its own number of boxes. -/
theorem packedF_best {ms : List Int} {m : Int} {n : Nat} {l : List Int} (h : Best ms most each m n l) (he : thingsE ms most each = 0) : packedF ms l most each = (m, true) := by
  obtain ⟨k, rfl, hkl, _, _, hw, _, hmin⟩ := h.1 he
  have hl := hw.free.length
  unfold packedF
  rw [if_neg (by omega)]
  obtain ⟨f', n', e1, e2, e3, e4⟩ := scanF_way (L := (l.length : Int)) ms l zf 0 k hw (by omega) (by omega) (by omega) (fun j => ⟨by simp [zf], fun h => by omega⟩)
  rw [e1]
  dsimp only
  rw [if_pos (fullB_of fun j hj => (e4 j).2 hj)]
  have hf := (scanF_free ms l zf 0 f' n' hl e1).2.1 n' (by omega)
  have : n' = k := by
    rcases (show n' < k ∨ k ≤ n' by omega) with hlt | hge
    · have h2 := hmin n'.toNat (by omega) l
      rw [Int.toNat_of_nonneg e2] at h2
      exact absurd hf h2
    · omega
  rw [this]
/-- What passes is a packing with that number of boxes. -/
theorem packedF_free {ms at' : List Int} {n : Int} (h : packedF ms at' most each = (n, true)) : 0 ≤ n ∧ at'.length = ms.length ∧ Free most each n ms zf at' := by
  unfold packedF at h
  by_cases hl : at'.length ≠ ms.length
  · rw [if_pos hl] at h; simp at h
  · rw [if_neg hl] at h
    have hl' : at'.length = ms.length := by omega
    cases hs : scanF most each at'.length ms at' zf 0 with
    | none => rw [hs] at h; simp at h
    | some p =>
      obtain ⟨f', n'⟩ := p
      rw [hs] at h
      dsimp only at h
      by_cases hb : fullB f' n' = true
      · rw [if_pos hb] at h
        injection h with h1 _
        subst h1
        obtain ⟨i1, i2, _⟩ := scanF_free ms at' zf 0 f' n' hl' hs
        exact ⟨i1, hl', i2 _ (Int.le_refl _)⟩
      · rw [if_neg hb] at h; simp at h
end Go.Proofs.Ytnoocdobldchoaa
