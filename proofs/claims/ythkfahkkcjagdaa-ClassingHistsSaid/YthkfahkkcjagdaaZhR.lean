/- Texts of this claim and words of the kit's print, trimmed to what it uses and joined. -/
import Derived.Deep.Slices
import Derived.Deep.Fields
import Derived.OpenShut
import Derived.Laws.IdiomArrays
import Derived.Test.YthkfahkkcjagdaaZhD
section
namespace Go.Proofs.Ythkfahkkcjagdaa
open Go.RowKit Go.Proofs.YthkfahkkcjagdaaW.PrintWords Go.Proofs.YthkfahkkcjagdaaW.PrintMore Go.Proofs.YthkfahkkcjagdaaW.PrintLast
open Go.ChangeShapes Go.WideShapes Go.Deep

theorem c3 : Try.prog.cellsOf 3 = 1 := by kernel_rfl
theorem c5 : Try.prog.cellsOf 5 = 1 := by kernel_rfl
theorem c24 : Try.prog.cellsOf 24 = 3 := by kernel_rfl
section
variable {H : Type} {enc : TypeId × Value → H} {w : World} {held : Bool}
end
end Go.Proofs.Ythkfahkkcjagdaa
end
section
namespace Go.Proofs.Ythkfahkkcjagdaa
open Go.RowKit Go.Proofs.YthkfahkkcjagdaaW.PrintWords Go.Proofs.YthkfahkkcjagdaaW.PrintMore Go.Proofs.YthkfahkkcjagdaaW.PrintLast
open Go.ChangeShapes Go.WideShapes Go.Deep
theorem c40 : Try.prog.cellsOf 40 = 3 := by kernel_rfl
theorem okWide_arr {P : Program} {w : World} {r : Reach} {base : Nat} {t : TypeId} {v : Value} {n : Nat} {e : TypeId} (ht : P.underlying t = some (.array n e)) (h : Value.okWide P w r base t v) : ∃ cs, v = .agg cs ∧ cs.size = P.cellsOf t := by
  simp only [Value.okWide, ht] at h
  obtain ⟨cs, h1, h2, _⟩ := h
  exact ⟨cs, h1, h2⟩
section
variable {H : Type} {enc : TypeId × Value → H} {w : World} {held : Bool}
end
end Go.Proofs.Ythkfahkkcjagdaa
end
section
namespace Go.Proofs.Ythkfahkkcjagdaa
open Go.RowKit Go.Proofs.YthkfahkkcjagdaaW.PrintWords Go.Proofs.YthkfahkkcjagdaaW.PrintMore Go.Proofs.YthkfahkkcjagdaaW.PrintLast
open Go.ChangeShapes Go.WideShapes Go.Deep
theorem c57 : Try.prog.cellsOf 57 = 2 := by kernel_rfl
theorem c67 : Try.prog.cellsOf 67 = 64 := by kernel_rfl
section
variable {H : Type} {enc : TypeId × Value → H} {w : World} {held : Bool}
set_option maxRecDepth 100000 in
/-- A fraction, read. -/
theorem open_frac {re : Reach} {b0 : Nat} {v : Value} {d : DataW H} {ps : List MemPlace} (hval : Value.okWide Try.prog w re b0 (57 : TypeId) v) (hd : DataW.Trod enc Try.prog w 0 (fun _ => true) held (57 : TypeId) v d ps) :
    ∃ a b : Int, v = .agg #[.int .i64 a, .int .i64 b] ∧ (Lit.int .i64 a).wf = true ∧ (Lit.int .i64 b).wf = true := by
  obtain ⟨cs, rfl, hsz⟩ := okWide_struct Try.underlying57 hval
  rw [c57] at hsz
  obtain ⟨fuel, hf0⟩ := hd
  obtain ⟨ys, n', _, _, hlen, hyl, hf⟩ := DataW.trod_struct Try.underlying57 hf0
  have e0 : DataW.trod enc Try.prog w 0 (fun _ => true) held n' 3 ((cs.toList.drop 0).take (Try.prog.cellsOf 3)) = ys[0]? := hf 0 _ rfl
  have e1 : DataW.trod enc Try.prog w 0 (fun _ => true) held n' 3 ((cs.toList.drop 1).take (Try.prog.cellsOf 3)) = ys[1]? := hf 1 _ rfl
  rw [c3] at e0 e1
  obtain ⟨l⟩ := cs
  match l, hsz, e0, e1 with
  | [c0, c1], _, e0, e1 =>
    simp only [List.drop_zero, List.take_succ_cons, List.take_zero, List.drop_succ_cons] at e0 e1
    have y0 : ys[0]? = some (ys[0]'(by rw [hyl]; simp)) := List.getElem?_eq_getElem _
    have y1 : ys[1]? = some (ys[1]'(by rw [hyl]; simp)) := List.getElem?_eq_getElem _
    obtain ⟨p, g0, _, w0⟩ := DataW.trod_int Try.underlying3 (e0.trans y0)
    obtain ⟨q, g1, _, w1⟩ := DataW.trod_int Try.underlying3 (e1.trans y1)
    simp only [List.cons.injEq, and_true] at g0 g1
    subst g0 g1
    exact ⟨p, q, rfl, w0, w1⟩
theorem all_ints {n' : Nat} {cs : List Value} {ys : List (DataW H × List MemPlace)} {n : Nat} (hl : cs.length = n) (hm : (List.range n).mapM (fun i => DataW.trod enc Try.prog w 0 (fun _ => true) held n' 3 ((cs.drop (i * 1)).take 1)) = some ys) :
    ∃ xs : List Int, cs = ints xs ∧ ∀ x ∈ xs, (Lit.int .i64 x).wf = true := by
  have key : ∀ i, i < n → ∃ x, cs[i]? = some (.int .i64 x) ∧ (Lit.int .i64 x).wf = true := by
    intro i hi
    have h1 := mapM_some_get hm i i (by simp [hi])
    have hyl := mapM_some_length hm
    rw [List.length_range] at hyl
    have y0 : ys[i]? = some (ys[i]'(by omega)) := List.getElem?_eq_getElem _
    obtain ⟨p, g0, _, w0⟩ := DataW.trod_int Try.underlying3 (h1.trans y0)
    refine ⟨p, ?_, w0⟩
    have h2 := congrArg (fun l => l[0]?) g0
    rw [List.getElem?_take, if_pos (by decide), List.getElem?_drop] at h2
    simpa using h2
  clear hm ys
  induction cs generalizing n with
  | nil => exact ⟨[], rfl, fun x hx => by simp at hx⟩
  | cons c cs ih =>
    subst hl
    obtain ⟨xs, rfl, hx⟩ := ih rfl (fun i hi => by
      have := key (i + 1) (by rw [List.length_cons]; omega)
      simpa using this)
    obtain ⟨x, hc, hw⟩ := key 0 (by rw [List.length_cons]; omega)
    rw [List.getElem?_cons_zero] at hc
    cases hc
    refine ⟨x :: xs, rfl, fun z hz => ?_⟩
    rcases List.mem_cons.1 hz with rfl | hz
    · exact hw
    · exact hx z hz
set_option maxRecDepth 100000 in
/-- A histogram, read. -/
theorem open_hist {re : Reach} {b0 : Nat} {v : Value} {d : DataW H} {ps : List MemPlace} (hval : Value.okWide Try.prog w re b0 (67 : TypeId) v) (hd : DataW.Trod enc Try.prog w 0 (fun _ => true) held (67 : TypeId) v d ps) :
    ∃ xs : List Int, v = .agg (ints xs).toArray ∧ xs.length = 64 ∧ ∀ x ∈ xs, (Lit.int .i64 x).wf = true := by
  obtain ⟨⟨l⟩, rfl, hsz⟩ := okWide_arr Try.underlying67 hval
  rw [c67] at hsz
  obtain ⟨fuel, hf0⟩ := hd
  cases fuel with
  | zero => simp [DataW.trod] at hf0
  | succ n' =>
    have hl : l.length = 64 := hsz
    unfold DataW.trod at hf0
    rw [Try.underlying67] at hf0
    have hm : ∃ ys, (List.range 64).mapM (fun i => DataW.trod enc Try.prog w 0 (fun _ => true) held n' 3 ((l.drop (i * 1)).take 1)) = some ys := by
      have hcl : (Value.agg ⟨l⟩).cells.toList = l := rfl
      rw [hcl] at hf0
      dsimp only at hf0
      rw [if_pos (by rw [c67]; exact hl), c3] at hf0
      cases e : (List.range 64).mapM (fun i => DataW.trod enc Try.prog w 0 (fun _ => true) held n' 3 ((l.drop (i * 1)).take 1)) with
      | none => rw [e] at hf0; simp at hf0
      | some ys => exact ⟨ys, rfl⟩
    obtain ⟨ys, hm⟩ := hm
    obtain ⟨xs, rfl, hx⟩ := all_ints hl hm
    exact ⟨xs, rfl, by rw [ints_length] at hl; exact hl, hx⟩
end
end Go.Proofs.Ythkfahkkcjagdaa
end
