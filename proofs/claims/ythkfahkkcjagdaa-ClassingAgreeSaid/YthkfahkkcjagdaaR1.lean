/- A row of fleeces that came in, read as a list; the conditions that came in. -/
import Derived.Test.YthkfahkkcjagdaaC9
import Derived.Deep.Slices
import Derived.Deep.Fields
import Derived.OpenShut
import Derived.Laws.IdiomArrays
namespace Go.Proofs.Ythkfahkkcjagdaa
open Go.RowKit Go.Proofs.YthkfahkkcjagdaaW.PrintWords Go.Proofs.YthkfahkkcjagdaaW.PrintMore Go.Proofs.YthkfahkkcjagdaaW.PrintLast
open Go.ChangeShapes Go.WideShapes Go.Deep

def IsRowF (w : World) (A : Option Addr) (len cap : Nat) (fs : List Fl) : Prop := fs.length = len ∧ kF.C w A len fs ∧ len ≤ cap ∧ KOK fs
theorem u8_of_wf {n : Int} (h : (Lit.int .u8 n).wf = true) : 0 ≤ n ∧ n ≤ 255 := by
  simp [Lit.wf, IntKind.min, IntKind.max, IntKind.signed, IntKind.bits] at h
  omega
theorem c34 : Try.prog.cellsOf 34 = 4 := by kernel_rfl
theorem c3 : Try.prog.cellsOf 3 = 1 := by kernel_rfl
theorem c5 : Try.prog.cellsOf 5 = 1 := by kernel_rfl
theorem c44 : Try.prog.cellsOf 44 = 6 := by kernel_rfl
theorem c24 : Try.prog.cellsOf 24 = 3 := by kernel_rfl
section
variable {H : Type} {enc : TypeId × Value → H} {w : World} {held : Bool}
set_option maxRecDepth 100000 in
theorem cells_F {fuel : Nat} {cs : List Value} {x : DataW H × List MemPlace} (hl : cs.length = 6) (h : DataW.trod enc Try.prog w 0 (fun _ => true) held fuel 44 cs = some x) : ∃ f : Fl, kOK f ∧ cs = fcs f := by
  obtain ⟨ys, n', _, _, hlen, hyl, hf⟩ := DataW.trod_struct Try.underlying44 h
  have e0 : DataW.trod enc Try.prog w 0 (fun _ => true) held n' 34 ((cs.drop 0).take (Try.prog.cellsOf 34)) = ys[0]? := hf 0 _ rfl
  have e1 : DataW.trod enc Try.prog w 0 (fun _ => true) held n' 3 ((cs.drop 4).take (Try.prog.cellsOf 3)) = ys[1]? := hf 1 _ rfl
  have e2 : DataW.trod enc Try.prog w 0 (fun _ => true) held n' 3 ((cs.drop 5).take (Try.prog.cellsOf 3)) = ys[2]? := hf 2 _ rfl
  rw [c34] at e0
  rw [c3] at e1 e2
  match cs, hl, e0, e1, e2 with
  | [c0, c1, c2, c3', c4, c5'], _, e0, e1, e2 =>
    simp only [List.drop_zero, List.take_succ_cons, List.take_zero, List.drop_succ_cons] at e0 e1 e2
    have y0 : ys[0]? = some (ys[0]'(by rw [hyl]; simp)) := List.getElem?_eq_getElem _
    have y1 : ys[1]? = some (ys[1]'(by rw [hyl]; simp)) := List.getElem?_eq_getElem _
    have y2 : ys[2]? = some (ys[2]'(by rw [hyl]; simp)) := List.getElem?_eq_getElem _
    obtain ⟨z0, z1, z2, z3, m, _, a0, a1, a2, a3⟩ := trod_array4 Try.underlying34 c5 (e0.trans y0)
    obtain ⟨k0, g0, _, w0⟩ := DataW.trod_int Try.underlying5 a0
    obtain ⟨k1, g1, _, w1⟩ := DataW.trod_int Try.underlying5 a1
    obtain ⟨k2, g2, _, w2⟩ := DataW.trod_int Try.underlying5 a2
    obtain ⟨k3, g3, _, w3⟩ := DataW.trod_int Try.underlying5 a3
    obtain ⟨p, g4, _, _⟩ := DataW.trod_int Try.underlying3 (e1.trans y1)
    obtain ⟨q, g5, _, _⟩ := DataW.trod_int Try.underlying3 (e2.trans y2)
    simp only [List.cons.injEq, and_true] at g0 g1 g2 g3 g4 g5
    subst g0 g1 g2 g3 g4 g5
    exact ⟨⟨k0, k1, k2, k3, p, q⟩, ⟨u8_of_wf w0, u8_of_wf w1, u8_of_wf w2, u8_of_wf w3⟩, rfl⟩
set_option maxRecDepth 100000 in
theorem row_F {fuel : Nat} {a : Option Addr} {len cap : Nat} {x : DataW H × List MemPlace} (h : DataW.trod enc Try.prog w 0 (fun _ => true) held fuel 22 (Value.slice a len cap).cells.toList = some x) :
    ∃ fs, IsRowF w a len cap fs := by
  rcases open_slice Try.underlying22 h with ⟨hcs, _⟩ | ⟨ad, l, c, m, n, D, Pl, hcs, _, hl, hm, hmm, _, hi⟩
  · simp [Value.cells] at hcs
    obtain ⟨rfl, rfl, rfl⟩ := hcs
    exact ⟨[], rfl, ⟨rfl, by decide, fun h => absurd h (by decide)⟩, Nat.le_refl _, fun f hf => by simp at hf⟩
  · simp [Value.cells] at hcs
    obtain ⟨rfl, rfl, rfl⟩ := hcs
    rw [if_pos rfl] at hmm
    subst hmm
    have key : ∀ i, i < m → ∃ f : Fl, kOK f ∧ ∀ j u, (fcs f)[j]? = some u → w.cell? (ad.add (i * 6 + j)) = some u := by
      intro i him
      obtain ⟨cs', hc, ht'⟩ := hi i him
      rw [c44] at hc
      obtain ⟨_, hcl, hat⟩ := World.cells?_some hc
      obtain ⟨f, hk, rfl⟩ := cells_F hcl ht'
      refine ⟨f, hk, fun j u hu => ?_⟩
      have hj : j < 6 := (List.getElem?_eq_some_iff.1 hu).1
      have := hat j (by omega)
      rw [Go.Deep.add_add] at this
      rw [this]
      exact hu
    have key2 : ∀ i, ∃ f : Fl, kOK f ∧ (i < m → ∀ j u, (fcs f)[j]? = some u → w.cell? (ad.add (i * 6 + j)) = some u) := fun i => by
      by_cases him : i < m
      · obtain ⟨f, h1, h2⟩ := key i him
        exact ⟨f, h1, fun _ => h2⟩
      · exact ⟨fl0, ⟨⟨by decide, by decide⟩, ⟨by decide, by decide⟩, ⟨by decide, by decide⟩, by decide, by decide⟩, fun h => absurd h him⟩
    let F : Nat → Fl := fun i => (key2 i).choose
    have hF : ∀ i, kOK (F i) ∧ (i < m → ∀ j u, (fcs (F i))[j]? = some u → w.cell? (ad.add (i * 6 + j)) = some u) := fun i => (key2 i).choose_spec
    refine ⟨(List.range len).map F, by simp, ⟨by simp, by unfold maxLen at hm; omega, fun _ => ⟨ad, rfl, fun j p hp => ?_⟩⟩, hl, fun f hf => ?_⟩
    · have hj : j < len := by
        have := (List.getElem?_eq_some_iff.1 hp).1
        simpa using this
      rw [List.getElem?_map, List.getElem?_range hj] at hp
      simp only [Option.map_some, Option.some.injEq] at hp
      subst hp
      exact ⟨fcs (F j), rfl, rfl, (hF j).2 (by omega)⟩
    · obtain ⟨i, _, rfl⟩ := List.mem_map.1 hf
      exact (hF i).1
set_option maxRecDepth 100000 in
/-- The conditions, read. -/
theorem open_spec {re : Reach} {b0 : Nat} {v : Value} {d : DataW H} {ps : List MemPlace} (hval : Value.okWide Try.prog w re b0 (24 : TypeId) v) (hd : DataW.Trod enc Try.prog w 0 (fun _ => true) held (24 : TypeId) v d ps) :
    ∃ l s p : Int, v = .agg #[.int .i64 l, .int .i64 s, .int .i64 p] ∧ (Lit.int .i64 l).wf = true ∧ (Lit.int .i64 s).wf = true ∧ (Lit.int .i64 p).wf = true := by
  obtain ⟨cs, rfl, hsz⟩ := okWide_struct Try.underlying24 hval
  rw [c24] at hsz
  obtain ⟨fuel, hf0⟩ := hd
  obtain ⟨ys, n', _, _, hlen, hyl, hf⟩ := DataW.trod_struct Try.underlying24 hf0
  have e0 : DataW.trod enc Try.prog w 0 (fun _ => true) held n' 3 ((cs.toList.drop 0).take (Try.prog.cellsOf 3)) = ys[0]? := hf 0 _ rfl
  have e1 : DataW.trod enc Try.prog w 0 (fun _ => true) held n' 3 ((cs.toList.drop 1).take (Try.prog.cellsOf 3)) = ys[1]? := hf 1 _ rfl
  have e2 : DataW.trod enc Try.prog w 0 (fun _ => true) held n' 3 ((cs.toList.drop 2).take (Try.prog.cellsOf 3)) = ys[2]? := hf 2 _ rfl
  rw [c3] at e0 e1 e2
  obtain ⟨l⟩ := cs
  match l, hsz, e0, e1, e2 with
  | [c0, c1, c2], _, e0, e1, e2 =>
    simp only [List.drop_zero, List.take_succ_cons, List.take_zero, List.drop_succ_cons] at e0 e1 e2
    have y0 : ys[0]? = some (ys[0]'(by rw [hyl]; simp)) := List.getElem?_eq_getElem _
    have y1 : ys[1]? = some (ys[1]'(by rw [hyl]; simp)) := List.getElem?_eq_getElem _
    have y2 : ys[2]? = some (ys[2]'(by rw [hyl]; simp)) := List.getElem?_eq_getElem _
    obtain ⟨p, g0, _, w0⟩ := DataW.trod_int Try.underlying3 (e0.trans y0)
    obtain ⟨q, g1, _, w1⟩ := DataW.trod_int Try.underlying3 (e1.trans y1)
    obtain ⟨r, g2, _, w2⟩ := DataW.trod_int Try.underlying3 (e2.trans y2)
    simp only [List.cons.injEq, and_true] at g0 g1 g2
    subst g0 g1 g2
    exact ⟨p, q, r, rfl, w0, w1, w2⟩
end
end Go.Proofs.Ythkfahkkcjagdaa
