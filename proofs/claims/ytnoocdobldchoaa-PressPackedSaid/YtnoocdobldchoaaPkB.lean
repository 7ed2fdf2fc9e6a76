/- The lower bound on boxes as a plain function, and the bounds on its parts. -/
import Derived.Test.YtnoocdobldchoaaMem
namespace Go.Proofs.Ytnoocdobldchoaa
open Go.RowKit Go.Proofs.YtnoocdobldchoaaW.PrintWords

/-- What one mass adds: large, middle, held, small. -/
def bstep (most a : Int) (s : Int × Int × Int × Int) (m : Int) : Int × Int × Int × Int :=
  if most - a < m then (s.1 + 1, s.2.1, s.2.2.1, s.2.2.2)
  else if most < 2 * m then (s.1, s.2.1 + 1, s.2.2.1 + m, s.2.2.2)
  else if a ≤ m then (s.1, s.2.1, s.2.2.1, s.2.2.2 + m) else s
def brest (most : Int) (s : Int × Int × Int × Int) : Int := s.2.2.2 - (s.2.1 * most - s.2.2.1)
def bform (most : Int) (s : Int × Int × Int × Int) : Int :=
  if 0 < brest most s then s.1 + s.2.1 + (brest most s + most - 1) / most else s.1 + s.2.1
def bval (ms : List Int) (most a : Int) : Int := bform most (ms.foldl (bstep most a) (0, 0, 0, 0))
/-- The program's bound: over 0 and the masses that are at most half. -/
def boundF (ms : List Int) (most : Int) : Int := (0 :: ms).foldl (fun best a => if most < 2 * a then best else max best (bval ms most a)) 0

/-- How large the parts can be behind i masses. -/
def BB (i : Int) (s : Int × Int × Int × Int) : Prop := (0 ≤ s.1 ∧ s.1 ≤ i) ∧ (0 ≤ s.2.1 ∧ s.2.1 ≤ i) ∧ (0 ≤ s.2.2.1 ∧ s.2.2.1 ≤ i * 1073741824) ∧ 0 ≤ s.2.2.2 ∧ s.2.2.2 ≤ i * 1073741824
theorem BB.step {i : Int} {s : Int × Int × Int × Int} (h : BB i s) (most a m : Int) (h0 : 0 ≤ m) (h1 : m ≤ 1073741824) : BB (i + 1) (bstep most a s m) := by
  obtain ⟨⟨h2, h3⟩, ⟨h4, h5⟩, ⟨h6, h7⟩, h8, h9⟩ := h
  unfold bstep
  split
  · exact ⟨⟨by (try dsimp only); omega, by (try dsimp only); omega⟩, ⟨h4, by (try dsimp only); omega⟩, ⟨h6, by (try dsimp only); omega⟩, h8, by (try dsimp only); omega⟩
  · split
    · exact ⟨⟨h2, by (try dsimp only); omega⟩, ⟨by (try dsimp only); omega, by (try dsimp only); omega⟩, ⟨by (try dsimp only); omega, by (try dsimp only); omega⟩, h8, by (try dsimp only); omega⟩
    · split
      · exact ⟨⟨h2, by (try dsimp only); omega⟩, ⟨h4, by (try dsimp only); omega⟩, ⟨h6, by (try dsimp only); omega⟩, by (try dsimp only); omega, by (try dsimp only); omega⟩
      · exact ⟨⟨h2, by (try dsimp only); omega⟩, ⟨h4, by (try dsimp only); omega⟩, ⟨h6, by (try dsimp only); omega⟩, h8, by (try dsimp only); omega⟩

/-- The masses are in their range. -/
def MOK (ms : List Int) : Prop := ms.length ≤ 12 ∧ ∀ i, i < ms.length → 1 ≤ ms.getD i 0 ∧ ms.getD i 0 ≤ 1073741824
theorem MOK.at_ {ms : List Int} (h : MOK ms) (i : Int) (h0 : 0 ≤ i) (h1 : i < ms.length) : 1 ≤ rd ms i ∧ rd ms i ≤ 1073741824 := h.2 i.toNat (by omega)
theorem mul_bd {x y a b : Int} (hx : 0 ≤ x) (hxa : x ≤ a) (hy : 0 ≤ y) (hyb : y ≤ b) : 0 ≤ x * y ∧ x * y ≤ a * b :=
  ⟨Int.mul_nonneg hx hy, Int.mul_le_mul hxa hyb hy (by omega)⟩
end Go.Proofs.Ytnoocdobldchoaa
