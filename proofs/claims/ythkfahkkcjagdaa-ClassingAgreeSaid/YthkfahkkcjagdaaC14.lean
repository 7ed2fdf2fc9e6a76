/- The cheapest plan: plain, and its memory. -/
import Derived.Test.YthkfahkkcjagdaaC12
import Derived.Test.YthkfahkkcjagdaaC10
import Derived.Test.YthkfahkkcjagdaaC13
namespace Go.Proofs.Ythkfahkkcjagdaa
open Go.RowKit Go.Proofs.YthkfahkkcjagdaaW.PrintWords Go.Proofs.YthkfahkkcjagdaaW.PrintMore Go.Proofs.YthkfahkkcjagdaaW.PrintLast

/-- The first place of the least value. -/
def kB (f : Nat → Int) : Nat → Nat
  | 0 => 0
  | m + 1 => if f m < f (kB f m) then m else kB f m
theorem kB_lt (f : Nat → Int) : ∀ m, kB f m < m ∨ kB f m = 0
  | 0 => .inr rfl
  | m + 1 => by
    unfold kB
    split
    · exact .inl (by omega)
    · rcases kB_lt f m with h | h
      · exact .inl (by omega)
      · exact .inr h
/-- The first place from d on where P holds. -/
def fdF (P : Nat → Bool) : Nat → Nat → Nat
  | 0, d => d
  | k + 1, d => if P d = true then d else fdF P k (d + 1)
theorem fdF_spec (P : Nat → Bool) : ∀ (k d : Nat), (∃ e, d ≤ e ∧ e < d + k ∧ P e = true) → P (fdF P k d) = true ∧ d ≤ fdF P k d ∧ fdF P k d < d + k
  | 0, d, h => by obtain ⟨e, h1, h2, _⟩ := h; omega
  | k + 1, d, h => by
    unfold fdF
    by_cases h1 : P d = true
    · rw [if_pos h1]; exact ⟨h1, by omega, by omega⟩
    · rw [if_neg h1]
      have := fdF_spec P k (d + 1) (by
        obtain ⟨e, h2, h3, h4⟩ := h
        refine ⟨e, ?_, by omega, h4⟩
        rcases (show e = d ∨ d < e by omega) with rfl | h5
        · exact absurd h4 h1
        · omega)
      exact ⟨this.1, by omega, by omega⟩
/-- Does the first line of a best division end behind d + 1 fleeces? -/
def isD (s : Nat → Fl) (least p : Int) (n k i d : Nat) : Bool := decide (addO (cO s least p i (d + 1)) (restO s least p n k (i + d + 1)) = restO s least p n (k + 1) i)
def cutD (s : Nat → Fl) (least p : Int) (n k i : Nat) : Nat := fdF (isD s least p n k i) (n - i) 0
/-- The runs of the best division: where they begin, how long they are. -/
def planF (s : Nat → Fl) (least p : Int) (n : Nat) : Nat → Nat → List (Nat × Nat)
  | 0, _ => []
  | k + 1, i => (i, cutD s least p n k i + 1) :: planF s least p n k (i + cutD s least p n k i + 1)
section
variable {s : Nat → Fl} {least p : Int} {n : Nat}
theorem cut_ok {k i : Nat} (h : restO s least p n (k + 1) i ≠ none) : isD s least p n k i (cutD s least p n k i) = true ∧ cutD s least p n k i < n - i := by
  have hv : ∃ v, restO s least p n (k + 1) i = some v := by
    cases e : restO s least p n (k + 1) i with
    | none => exact absurd e h
    | some v => exact ⟨v, rfl⟩
  obtain ⟨v, hv⟩ := hv
  have h1 := hv
  unfold restO at h1
  obtain ⟨⟨d, hd, e⟩, _⟩ := minO_le _ _ _ h1
  have := fdF_spec (isD s least p n k i) (n - i) 0 ⟨d, by omega, by omega, by unfold isD; rw [hv]; exact decide_eq_true e⟩
  exact ⟨this.1, by have := this.2.2; unfold cutD; omega⟩
theorem cut_some {k i : Nat} (h : restO s least p n (k + 1) i ≠ none) : cO s least p i (cutD s least p n k i + 1) ≠ none ∧ restO s least p n k (i + cutD s least p n k i + 1) ≠ none := by
  have h1 := (cut_ok h).1
  unfold isD at h1
  rw [decide_eq_true_eq] at h1
  constructor
  · intro e; rw [e] at h1; exact h h1.symm
  · intro e
    rw [e] at h1
    have : addO (cO s least p i (cutD s least p n k i + 1)) none = none := by cases cO s least p i (cutD s least p n k i + 1) <;> rfl
    rw [this] at h1
    exact h h1.symm
end
/-- The cells of a line in memory. -/
def lcs (s : Nat → Fl) (least p : Int) (n : Nat) (l : Nat × Nat × Nat × Nat) : List Value :=
  [.int .u8 (s l.2.2.1).k0, .int .u8 (s l.2.2.1).k1, .int .u8 (s l.2.2.1).k2, .int .u8 (s l.2.2.1).k3, .slice (some ⟨l.1, 0, none⟩) l.2.2.2 l.2.1,
    .int .i64 (massD s l.2.2.1 l.2.2.2), .int .i64 ((erowF s p n l.2.2.1).getD (l.2.2.1 + l.2.2.2) 0), .int .i64 ((crowF s least p n l.2.2.1).getD (l.2.2.1 + l.2.2.2) 0)]
/-- A plan in memory: its lines' blocks and rooms, where each begins, how long it is. -/
structure PlanM (w : World) (N : Nat) (v : Value) (s : Nat → Fl) (ord : List Int) (least p : Int) (n : Nat) (ls : List (Nat × Nat × Nat × Nat)) : Prop where
  v : w.ownsRow N 37 8 v ls.length (ls.flatMap (lcs s least p n))
  f : ∀ l ∈ ls, w.ownsRow N 3 1 (.slice (some ⟨l.1, 0, none⟩) l.2.2.2 l.2.1) l.2.2.2 (ints ((ord.drop l.2.2.1).take l.2.2.2))
def bestF (s : Nat → Fl) (least p : Int) (n : Nat) (m : Nat) : Int := pE (restO s least p n m 0)
def bestK (s : Nat → Fl) (least p : Int) (n most : Nat) : Nat := kB (bestF s least p n) (most + 1)
def LinesPost (w : World) (fs : List Fl) (l least p : Int) (e : Ending) (w' : World) : Prop :=
  Below w.heap.size w w' ∧
  if errE fs l least p = 0 then
    if bestF (sF fs (ordF fs)) least p fs.length (bestK (sF fs (ordF fs)) least p fs.length l.toNat) < 4611686018427387904 then
      ∃ (v : Value) (ls : List (Nat × Nat × Nat × Nat)), e = .returned (.tuple #[v, .int .i64 (bestF (sF fs (ordF fs)) least p fs.length (bestK (sF fs (ordF fs)) least p fs.length l.toNat)), .int .i64 0]) ∧
        PlanM w' w.heap.size v (sF fs (ordF fs)) (ordF fs) least p fs.length ls ∧ ls.map (fun x => (x.2.2.1, x.2.2.2)) = planF (sF fs (ordF fs)) least p fs.length (bestK (sF fs (ordF fs)) least p fs.length l.toNat) 0
    else e = .returned (.tuple #[.slice none 0 0, .int .i64 0, .int .i64 13])
  else e = .returned (.tuple #[.slice none 0 0, .int .i64 0, .int .i64 (errE fs l least p)])
theorem info37 : (Try.prog.info? 37).map (fun i => (i.zero, i.size, i.bytes)) = some (some (.agg #[.int .u8 0, .int .u8 0, .int .u8 0, .int .u8 0, .slice none 0 0, .int .i64 0, .int .i64 0, .int .i64 0]), 8, 56) := by kernel_rfl
theorem PlanM.below {w w' : World} {N : Nat} {v : Value} {s : Nat → Fl} {ord : List Int} {least p : Int} {n : Nat} {ls : List (Nat × Nat × Nat × Nat)} (h : PlanM w N v s ord least p n ls) (b : Below w.heap.size w w') : PlanM w' N v s ord least p n ls :=
  ⟨pw_own_below h.v b, fun l hl => pw_own_below (h.f l hl) b⟩
end Go.Proofs.Ythkfahkkcjagdaa
