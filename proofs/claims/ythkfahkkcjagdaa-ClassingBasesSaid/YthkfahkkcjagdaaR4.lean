/- A subsample that came in by value, read. -/
import Derived.Test.YthkfahkkcjagdaaC9
import Derived.Deep.Slices
import Derived.Deep.Fields
import Derived.OpenShut
import Derived.Laws.IdiomArrays
namespace Go.Proofs.Ythkfahkkcjagdaa
open Go.RowKit Go.Proofs.YthkfahkkcjagdaaW.PrintWords Go.Proofs.YthkfahkkcjagdaaW.PrintMore Go.Proofs.YthkfahkkcjagdaaW.PrintLast
open Go.ChangeShapes Go.WideShapes Go.Deep
theorem c3s : Try.prog.cellsOf 3 = 1 := by kernel_rfl
theorem c55 : Try.prog.cellsOf 55 = 5 := by kernel_rfl
section
variable {H : Type} {enc : TypeId × Value → H} {w : World} {held : Bool}
set_option maxRecDepth 100000 in
/-- A subsample, read. -/
theorem open_sub {re : Reach} {b0 : Nat} {v : Value} {d : DataW H} {ps : List MemPlace} (hval : Value.okWide Try.prog w re b0 (55 : TypeId) v) (hd : DataW.Trod enc Try.prog w 0 (fun _ => true) held (55 : TypeId) v d ps) :
    ∃ a b c d' e : Int, v = .agg #[.int .i64 a, .int .i64 b, .int .i64 c, .int .i64 d', .int .i64 e] ∧ (Lit.int .i64 a).wf = true ∧ (Lit.int .i64 b).wf = true ∧ (Lit.int .i64 c).wf = true ∧ (Lit.int .i64 d').wf = true ∧ (Lit.int .i64 e).wf = true := by
  obtain ⟨cs, rfl, hsz⟩ := okWide_struct Try.underlying55 hval
  rw [c55] at hsz
  obtain ⟨fuel, hf0⟩ := hd
  obtain ⟨ys, n', _, _, hlen, hyl, hf⟩ := DataW.trod_struct Try.underlying55 hf0
  have e0 : DataW.trod enc Try.prog w 0 (fun _ => true) held n' 3 ((cs.toList.drop 0).take (Try.prog.cellsOf 3)) = ys[0]? := hf 0 _ rfl
  have e1 : DataW.trod enc Try.prog w 0 (fun _ => true) held n' 3 ((cs.toList.drop 1).take (Try.prog.cellsOf 3)) = ys[1]? := hf 1 _ rfl
  have e2 : DataW.trod enc Try.prog w 0 (fun _ => true) held n' 3 ((cs.toList.drop 2).take (Try.prog.cellsOf 3)) = ys[2]? := hf 2 _ rfl
  have e3 : DataW.trod enc Try.prog w 0 (fun _ => true) held n' 3 ((cs.toList.drop 3).take (Try.prog.cellsOf 3)) = ys[3]? := hf 3 _ rfl
  have e4 : DataW.trod enc Try.prog w 0 (fun _ => true) held n' 3 ((cs.toList.drop 4).take (Try.prog.cellsOf 3)) = ys[4]? := hf 4 _ rfl
  rw [c3s] at e0 e1 e2 e3 e4
  obtain ⟨l⟩ := cs
  match l, hsz, e0, e1, e2, e3, e4 with
  | [c0, c1, c2, c3', c4], _, e0, e1, e2, e3, e4 =>
    simp only [List.drop_zero, List.take_succ_cons, List.take_zero, List.drop_succ_cons] at e0 e1 e2 e3 e4
    have y0 : ys[0]? = some (ys[0]'(by rw [hyl]; simp)) := List.getElem?_eq_getElem _
    have y1 : ys[1]? = some (ys[1]'(by rw [hyl]; simp)) := List.getElem?_eq_getElem _
    have y2 : ys[2]? = some (ys[2]'(by rw [hyl]; simp)) := List.getElem?_eq_getElem _
    have y3 : ys[3]? = some (ys[3]'(by rw [hyl]; simp)) := List.getElem?_eq_getElem _
    have y4 : ys[4]? = some (ys[4]'(by rw [hyl]; simp)) := List.getElem?_eq_getElem _
    obtain ⟨p, g0, _, w0⟩ := DataW.trod_int Try.underlying3 (e0.trans y0)
    obtain ⟨q, g1, _, w1⟩ := DataW.trod_int Try.underlying3 (e1.trans y1)
    obtain ⟨r, g2, _, w2⟩ := DataW.trod_int Try.underlying3 (e2.trans y2)
    obtain ⟨s, g3, _, w3⟩ := DataW.trod_int Try.underlying3 (e3.trans y3)
    obtain ⟨t, g4, _, w4⟩ := DataW.trod_int Try.underlying3 (e4.trans y4)
    simp only [List.cons.injEq, and_true] at g0 g1 g2 g3 g4
    subst g0 g1 g2 g3 g4
    exact ⟨p, q, r, s, t, rfl, w0, w1, w2, w3, w4⟩
end
end Go.Proofs.Ythkfahkkcjagdaa
