/- A row of subsamples that came in, read as a list. -/
import Derived.Test.YthkfahkkcjagdaaR3
import Derived.Test.YthkfahkkcjagdaaMTa
namespace Go.Proofs.Ythkfahkkcjagdaa
open Go.RowKit Go.Proofs.YthkfahkkcjagdaaW.PrintWords Go.Proofs.YthkfahkkcjagdaaW.PrintMore Go.Proofs.YthkfahkkcjagdaaW.PrintLast
open Go.ChangeShapes Go.WideShapes Go.Deep

def IsRowQ (w : World) (A : Option Addr) (len cap : Nat) (fs : List Sb) : Prop := fs.length = len ∧ kQ.C w A len fs ∧ len ≤ cap
section
variable {H : Type} {enc : TypeId × Value → H} {w : World} {held : Bool}
set_option maxRecDepth 100000 in
theorem cells_Q {fuel : Nat} {cs : List Value} {x : DataW H × List MemPlace} (hl : cs.length = 5) (h : DataW.trod enc Try.prog w 0 (fun _ => true) held fuel 55 cs = some x) : ∃ f : Sb, cs = sbc f := by
  obtain ⟨ys, n', _, _, hlen, hyl, hf⟩ := DataW.trod_struct Try.underlying55 h
  have e0 : DataW.trod enc Try.prog w 0 (fun _ => true) held n' 3 ((cs.drop 0).take (Try.prog.cellsOf 3)) = ys[0]? := hf 0 _ rfl
  have e1 : DataW.trod enc Try.prog w 0 (fun _ => true) held n' 3 ((cs.drop 1).take (Try.prog.cellsOf 3)) = ys[1]? := hf 1 _ rfl
  have e2 : DataW.trod enc Try.prog w 0 (fun _ => true) held n' 3 ((cs.drop 2).take (Try.prog.cellsOf 3)) = ys[2]? := hf 2 _ rfl
  have e3 : DataW.trod enc Try.prog w 0 (fun _ => true) held n' 3 ((cs.drop 3).take (Try.prog.cellsOf 3)) = ys[3]? := hf 3 _ rfl
  have e4 : DataW.trod enc Try.prog w 0 (fun _ => true) held n' 3 ((cs.drop 4).take (Try.prog.cellsOf 3)) = ys[4]? := hf 4 _ rfl
  rw [c3] at e0 e1 e2 e3 e4
  match cs, hl, e0, e1, e2, e3, e4 with
  | [c0, c1, c2, c3', c4], _, e0, e1, e2, e3, e4 =>
    simp only [List.drop_zero, List.take_succ_cons, List.take_zero, List.drop_succ_cons] at e0 e1 e2 e3 e4
    have y0 : ys[0]? = some (ys[0]'(by rw [hyl]; simp)) := List.getElem?_eq_getElem _
    have y1 : ys[1]? = some (ys[1]'(by rw [hyl]; simp)) := List.getElem?_eq_getElem _
    have y2 : ys[2]? = some (ys[2]'(by rw [hyl]; simp)) := List.getElem?_eq_getElem _
    have y3 : ys[3]? = some (ys[3]'(by rw [hyl]; simp)) := List.getElem?_eq_getElem _
    have y4 : ys[4]? = some (ys[4]'(by rw [hyl]; simp)) := List.getElem?_eq_getElem _
    obtain ⟨k0, g0, _, _⟩ := DataW.trod_int Try.underlying3 (e0.trans y0)
    obtain ⟨k1, g1, _, _⟩ := DataW.trod_int Try.underlying3 (e1.trans y1)
    obtain ⟨k2, g2, _, _⟩ := DataW.trod_int Try.underlying3 (e2.trans y2)
    obtain ⟨k3, g3, _, _⟩ := DataW.trod_int Try.underlying3 (e3.trans y3)
    obtain ⟨k4, g4, _, _⟩ := DataW.trod_int Try.underlying3 (e4.trans y4)
    simp only [List.cons.injEq, and_true] at g0 g1 g2 g3 g4
    subst g0 g1 g2 g3 g4
    exact ⟨⟨k0, k1, k2, k3, k4⟩, rfl⟩
set_option maxRecDepth 100000 in
theorem row_Q {fuel : Nat} {a : Option Addr} {len cap : Nat} {x : DataW H × List MemPlace} (h : DataW.trod enc Try.prog w 0 (fun _ => true) held fuel 78 (Value.slice a len cap).cells.toList = some x) :
    ∃ fs, IsRowQ w a len cap fs := by
  rcases open_slice Try.underlying78 h with ⟨hcs, _⟩ | ⟨ad, l, c, m, n, D, Pl, hcs, _, hl, hm, hmm, _, hi⟩
  · simp [Value.cells] at hcs
    obtain ⟨rfl, rfl, rfl⟩ := hcs
    exact ⟨[], rfl, ⟨rfl, by decide, fun h => absurd h (by decide)⟩, Nat.le_refl _⟩
  · simp [Value.cells] at hcs
    obtain ⟨rfl, rfl, rfl⟩ := hcs
    rw [if_pos rfl] at hmm
    subst hmm
    have key : ∀ i, i < m → ∃ f : Sb, ∀ j u, (sbc f)[j]? = some u → w.cell? (ad.add (i * 5 + j)) = some u := by
      intro i him
      obtain ⟨cs', hc, ht'⟩ := hi i him
      rw [c55] at hc
      obtain ⟨_, hcl, hat⟩ := World.cells?_some hc
      obtain ⟨f, rfl⟩ := cells_Q hcl ht'
      refine ⟨f, fun j u hu => ?_⟩
      have hj : j < 5 := (List.getElem?_eq_some_iff.1 hu).1
      have := hat j (by omega)
      rw [Go.Deep.add_add] at this
      rw [this]
      exact hu
    have key2 : ∀ i, ∃ f : Sb, i < m → ∀ j u, (sbc f)[j]? = some u → w.cell? (ad.add (i * 5 + j)) = some u := fun i => by
      by_cases him : i < m
      · obtain ⟨f, h2⟩ := key i him
        exact ⟨f, fun _ => h2⟩
      · exact ⟨sb0, fun h => absurd h him⟩
    let F : Nat → Sb := fun i => (key2 i).choose
    have hF : ∀ i, i < m → ∀ j u, (sbc (F i))[j]? = some u → w.cell? (ad.add (i * 5 + j)) = some u := fun i => (key2 i).choose_spec
    refine ⟨(List.range len).map F, by simp, ⟨by simp, by unfold maxLen at hm; omega, fun _ => ⟨ad, rfl, fun j p hp => ?_⟩⟩, hl⟩
    have hj : j < len := by
      have := (List.getElem?_eq_some_iff.1 hp).1
      simpa using this
    rw [List.getElem?_map, List.getElem?_range hj] at hp
    simp only [Option.map_some, Option.some.injEq] at hp
    subst hp
    exact ⟨sbc (F j), rfl, rfl, hF j (by omega)⟩
end
end Go.Proofs.Ythkfahkkcjagdaa
