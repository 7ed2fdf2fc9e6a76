/- Subsamples, fractions and histograms that came in by value, read. -/
import Derived.Test.YthkfahkkcjagdaaR2
namespace Go.Proofs.Ythkfahkkcjagdaa
open Go.RowKit Go.Proofs.YthkfahkkcjagdaaW.PrintWords Go.Proofs.YthkfahkkcjagdaaW.PrintMore Go.Proofs.YthkfahkkcjagdaaW.PrintLast
open Go.ChangeShapes Go.WideShapes Go.Deep
theorem c55 : Try.prog.cellsOf 55 = 5 := by kernel_rfl
theorem c57 : Try.prog.cellsOf 57 = 2 := by kernel_rfl
theorem c67 : Try.prog.cellsOf 67 = 64 := by kernel_rfl
section
variable {H : Type} {enc : TypeId × Value → H} {w : World} {held : Bool}
set_option maxRecDepth 100000 in
/-- A subsample, read. -/
theorem open_sub {re : Reach} {b0 : Nat} {v : Value} {d : DataW H} {ps : List MemPlace} (hval : Value.okWide Try.prog w re b0 (55 : TypeId) v) (hd : DataW.Trod enc Try.prog w 0 (fun _ => true) held (55 : TypeId) v d ps) :
    ∃ a b c d' e : Int, v = .agg #[.int .i64 a, .int .i64 b, .int .i64 c, .int .i64 d', .int .i64 e] ∧ (Lit.int .i64 a).wf = true ∧ (Lit.int .i64 b).wf = true ∧ (Lit.int .i64 c).wf = true ∧ (Lit.int .i64 d').wf = true ∧ (Lit.int .i64 e).wf = true := by
  obtain ⟨cs, rfl, hsz⟩ := okWide_struct Try.underlying55 hval
  rw [c55] at hsz
  obtain ⟨fuel, hf0⟩ := hd
  obtain ⟨ys, n', _, _, hlen, hyl, hf⟩ := DataW.trod_struct Try.underlying55 hf0
  have e0 : DataW.trod enc Try.prog w 0 (fun _ => true) held n' 3 ((cs.toList.drop 0).take (Try.prog.cellsOf 3)) = ys[0]? := hf 0 _ rfl
  have e1 : DataW.trod enc Try.prog w 0 (fun _ => true) held n' 3 ((cs.toList.drop 1).take (Try.prog.cellsOf 3)) = ys[1]? := hf 1 _ rfl
  have e2 : DataW.trod enc Try.prog w 0 (fun _ => true) held n' 3 ((cs.toList.drop 2).take (Try.prog.cellsOf 3)) = ys[2]? := hf 2 _ rfl
  have e3 : DataW.trod enc Try.prog w 0 (fun _ => true) held n' 3 ((cs.toList.drop 3).take (Try.prog.cellsOf 3)) = ys[3]? := hf 3 _ rfl
  have e4 : DataW.trod enc Try.prog w 0 (fun _ => true) held n' 3 ((cs.toList.drop 4).take (Try.prog.cellsOf 3)) = ys[4]? := hf 4 _ rfl
  rw [c3] at e0 e1 e2 e3 e4
  obtain ⟨l⟩ := cs
  match l, hsz, e0, e1, e2, e3, e4 with
  | [c0, c1, c2, c3', c4], _, e0, e1, e2, e3, e4 =>
    simp only [List.drop_zero, List.take_succ_cons, List.take_zero, List.drop_succ_cons] at e0 e1 e2 e3 e4
    have y0 : ys[0]? = some (ys[0]'(by rw [hyl]; simp)) := List.getElem?_eq_getElem _
    have y1 : ys[1]? = some (ys[1]'(by rw [hyl]; simp)) := List.getElem?_eq_getElem _
    have y2 : ys[2]? = some (ys[2]'(by rw [hyl]; simp)) := List.getElem?_eq_getElem _
    have y3 : ys[3]? = some (ys[3]'(by rw [hyl]; simp)) := List.getElem?_eq_getElem _
    have y4 : ys[4]? = some (ys[4]'(by rw [hyl]; simp)) := List.getElem?_eq_getElem _
    obtain ⟨p, g0, _, w0⟩ := DataW.trod_int Try.underlying3 (e0.trans y0)
    obtain ⟨q, g1, _, w1⟩ := DataW.trod_int Try.underlying3 (e1.trans y1)
    obtain ⟨r, g2, _, w2⟩ := DataW.trod_int Try.underlying3 (e2.trans y2)
    obtain ⟨s, g3, _, w3⟩ := DataW.trod_int Try.underlying3 (e3.trans y3)
    obtain ⟨t, g4, _, w4⟩ := DataW.trod_int Try.underlying3 (e4.trans y4)
    simp only [List.cons.injEq, and_true] at g0 g1 g2 g3 g4
    subst g0 g1 g2 g3 g4
    exact ⟨p, q, r, s, t, rfl, w0, w1, w2, w3, w4⟩
set_option maxRecDepth 100000 in
/-- A fraction, read. -/
theorem open_frac {re : Reach} {b0 : Nat} {v : Value} {d : DataW H} {ps : List MemPlace} (hval : Value.okWide Try.prog w re b0 (57 : TypeId) v) (hd : DataW.Trod enc Try.prog w 0 (fun _ => true) held (57 : TypeId) v d ps) :
    ∃ a b : Int, v = .agg #[.int .i64 a, .int .i64 b] ∧ (Lit.int .i64 a).wf = true ∧ (Lit.int .i64 b).wf = true := by
  obtain ⟨cs, rfl, hsz⟩ := okWide_struct Try.underlying57 hval
  rw [c57] at hsz
  obtain ⟨fuel, hf0⟩ := hd
  obtain ⟨ys, n', _, _, hlen, hyl, hf⟩ := DataW.trod_struct Try.underlying57 hf0
  have e0 : DataW.trod enc Try.prog w 0 (fun _ => true) held n' 3 ((cs.toList.drop 0).take (Try.prog.cellsOf 3)) = ys[0]? := hf 0 _ rfl
  have e1 : DataW.trod enc Try.prog w 0 (fun _ => true) held n' 3 ((cs.toList.drop 1).take (Try.prog.cellsOf 3)) = ys[1]? := hf 1 _ rfl
  rw [c3] at e0 e1
  obtain ⟨l⟩ := cs
  match l, hsz, e0, e1 with
  | [c0, c1], _, e0, e1 =>
    simp only [List.drop_zero, List.take_succ_cons, List.take_zero, List.drop_succ_cons] at e0 e1
    have y0 : ys[0]? = some (ys[0]'(by rw [hyl]; simp)) := List.getElem?_eq_getElem _
    have y1 : ys[1]? = some (ys[1]'(by rw [hyl]; simp)) := List.getElem?_eq_getElem _
    obtain ⟨p, g0, _, w0⟩ := DataW.trod_int Try.underlying3 (e0.trans y0)
    obtain ⟨q, g1, _, w1⟩ := DataW.trod_int Try.underlying3 (e1.trans y1)
    simp only [List.cons.injEq, and_true] at g0 g1
    subst g0 g1
    exact ⟨p, q, rfl, w0, w1⟩
theorem all_ints {n' : Nat} {cs : List Value} {ys : List (DataW H × List MemPlace)} {n : Nat} (hl : cs.length = n) (hm : (List.range n).mapM (fun i => DataW.trod enc Try.prog w 0 (fun _ => true) held n' 3 ((cs.drop (i * 1)).take 1)) = some ys) :
    ∃ xs : List Int, cs = ints xs ∧ ∀ x ∈ xs, (Lit.int .i64 x).wf = true := by
  have key : ∀ i, i < n → ∃ x, cs[i]? = some (.int .i64 x) ∧ (Lit.int .i64 x).wf = true := by
    intro i hi
    have h1 := mapM_some_get hm i i (by simp [hi])
    have hyl := mapM_some_length hm
    rw [List.length_range] at hyl
    have y0 : ys[i]? = some (ys[i]'(by omega)) := List.getElem?_eq_getElem _
    obtain ⟨p, g0, _, w0⟩ := DataW.trod_int Try.underlying3 (h1.trans y0)
    refine ⟨p, ?_, w0⟩
    have h2 := congrArg (fun l => l[0]?) g0
    rw [List.getElem?_take, if_pos (by decide), List.getElem?_drop] at h2
    simpa using h2
  clear hm ys
  induction cs generalizing n with
  | nil => exact ⟨[], rfl, fun x hx => by simp at hx⟩
  | cons c cs ih =>
    subst hl
    obtain ⟨xs, rfl, hx⟩ := ih rfl (fun i hi => by
      have := key (i + 1) (by rw [List.length_cons]; omega)
      simpa using this)
    obtain ⟨x, hc, hw⟩ := key 0 (by rw [List.length_cons]; omega)
    rw [List.getElem?_cons_zero] at hc
    cases hc
    refine ⟨x :: xs, rfl, fun z hz => ?_⟩
    rcases List.mem_cons.1 hz with rfl | hz
    · exact hw
    · exact hx z hz
set_option maxRecDepth 100000 in
/-- A histogram, read. -/
theorem open_hist {re : Reach} {b0 : Nat} {v : Value} {d : DataW H} {ps : List MemPlace} (hval : Value.okWide Try.prog w re b0 (67 : TypeId) v) (hd : DataW.Trod enc Try.prog w 0 (fun _ => true) held (67 : TypeId) v d ps) :
    ∃ xs : List Int, v = .agg (ints xs).toArray ∧ xs.length = 64 ∧ ∀ x ∈ xs, (Lit.int .i64 x).wf = true := by
  obtain ⟨⟨l⟩, rfl, hsz⟩ := okWide_arr Try.underlying67 hval
  rw [c67] at hsz
  obtain ⟨fuel, hf0⟩ := hd
  cases fuel with
  | zero => simp [DataW.trod] at hf0
  | succ n' =>
    have hl : l.length = 64 := hsz
    unfold DataW.trod at hf0
    rw [Try.underlying67] at hf0
    have hm : ∃ ys, (List.range 64).mapM (fun i => DataW.trod enc Try.prog w 0 (fun _ => true) held n' 3 ((l.drop (i * 1)).take 1)) = some ys := by
      have hcl : (Value.agg ⟨l⟩).cells.toList = l := rfl
      rw [hcl] at hf0
      dsimp only at hf0
      rw [if_pos (by rw [c67]; exact hl), c3] at hf0
      cases e : (List.range 64).mapM (fun i => DataW.trod enc Try.prog w 0 (fun _ => true) held n' 3 ((l.drop (i * 1)).take 1)) with
      | none => rw [e] at hf0; simp at hf0
      | some ys => exact ⟨ys, rfl⟩
    obtain ⟨ys, hm⟩ := hm
    obtain ⟨xs, rfl, hx⟩ := all_ints hl hm
    exact ⟨xs, rfl, by rw [ints_length] at hl; exact hl, hx⟩
end
end Go.Proofs.Ythkfahkkcjagdaa
