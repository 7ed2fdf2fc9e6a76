/- Small arrays of bytes that came in. -/
import Derived.Test.YthkfahkkcjagdaaR1
namespace Go.Proofs.Ythkfahkkcjagdaa
open Go.RowKit Go.Proofs.YthkfahkkcjagdaaW.PrintWords Go.Proofs.YthkfahkkcjagdaaW.PrintMore Go.Proofs.YthkfahkkcjagdaaW.PrintLast
open Go.ChangeShapes Go.WideShapes Go.Deep
theorem c40 : Try.prog.cellsOf 40 = 3 := by kernel_rfl
theorem okWide_arr {P : Program} {w : World} {r : Reach} {base : Nat} {t : TypeId} {v : Value} {n : Nat} {e : TypeId} (ht : P.underlying t = some (.array n e)) (h : Value.okWide P w r base t v) : ∃ cs, v = .agg cs ∧ cs.size = P.cellsOf t := by
  simp only [Value.okWide, ht] at h
  obtain ⟨cs, h1, h2, _⟩ := h
  exact ⟨cs, h1, h2⟩
section
variable {H : Type} {enc : TypeId × Value → H} {w : World} {held : Bool}
set_option maxRecDepth 100000 in
theorem open_a3 {re : Reach} {b0 : Nat} {v : Value} {d : DataW H} {ps : List MemPlace} (hval : Value.okWide Try.prog w re b0 (40 : TypeId) v) (hd : DataW.Trod enc Try.prog w 0 (fun _ => true) held (40 : TypeId) v d ps) :
    ∃ m0 m1 m2 : Int, v = .agg #[.int .u8 m0, .int .u8 m1, .int .u8 m2] ∧ (0 ≤ m0 ∧ m0 ≤ 255) ∧ (0 ≤ m1 ∧ m1 ≤ 255) ∧ 0 ≤ m2 ∧ m2 ≤ 255 := by
  obtain ⟨⟨l⟩, rfl, hsz⟩ := okWide_arr Try.underlying40 hval
  rw [c40] at hsz
  obtain ⟨fuel, hf0⟩ := hd
  match l, hsz, hf0 with
  | [x0, x1, x2], _, hf0 =>
    obtain ⟨z0, z1, z2, m, _, a0, a1, a2⟩ := trod_array3 Try.underlying40 c5 hf0
    obtain ⟨k0, g0, _, w0⟩ := DataW.trod_int Try.underlying5 a0
    obtain ⟨k1, g1, _, w1⟩ := DataW.trod_int Try.underlying5 a1
    obtain ⟨k2, g2, _, w2⟩ := DataW.trod_int Try.underlying5 a2
    simp only [List.cons.injEq, and_true] at g0 g1 g2
    subst g0 g1 g2
    exact ⟨k0, k1, k2, rfl, u8_of_wf w0, u8_of_wf w1, u8_of_wf w2⟩
set_option maxRecDepth 100000 in
theorem open_kind {re : Reach} {b0 : Nat} {v : Value} {d : DataW H} {ps : List MemPlace} (hval : Value.okWide Try.prog w re b0 (34 : TypeId) v) (hd : DataW.Trod enc Try.prog w 0 (fun _ => true) held (34 : TypeId) v d ps) :
    ∃ m0 m1 m2 m3 : Int, v = .agg #[.int .u8 m0, .int .u8 m1, .int .u8 m2, .int .u8 m3] ∧ (0 ≤ m0 ∧ m0 ≤ 255) ∧ (0 ≤ m1 ∧ m1 ≤ 255) ∧ (0 ≤ m2 ∧ m2 ≤ 255) ∧ 0 ≤ m3 ∧ m3 ≤ 255 := by
  obtain ⟨⟨l⟩, rfl, hsz⟩ := okWide_arr Try.underlying34 hval
  rw [c34] at hsz
  obtain ⟨fuel, hf0⟩ := hd
  match l, hsz, hf0 with
  | [x0, x1, x2, x3], _, hf0 =>
    obtain ⟨z0, z1, z2, z3, m, _, a0, a1, a2, a3⟩ := trod_array4 Try.underlying34 c5 hf0
    obtain ⟨k0, g0, _, w0⟩ := DataW.trod_int Try.underlying5 a0
    obtain ⟨k1, g1, _, w1⟩ := DataW.trod_int Try.underlying5 a1
    obtain ⟨k2, g2, _, w2⟩ := DataW.trod_int Try.underlying5 a2
    obtain ⟨k3, g3, _, w3⟩ := DataW.trod_int Try.underlying5 a3
    simp only [List.cons.injEq, and_true] at g0 g1 g2 g3
    subst g0 g1 g2 g3
    exact ⟨k0, k1, k2, k3, rfl, u8_of_wf w0, u8_of_wf w1, u8_of_wf w2, u8_of_wf w3⟩
end
end Go.Proofs.Ythkfahkkcjagdaa
