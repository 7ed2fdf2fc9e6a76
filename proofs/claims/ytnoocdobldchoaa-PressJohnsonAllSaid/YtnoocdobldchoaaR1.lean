/- A row of pairs of whole numbers, or of bools, that came in, read as a list. -/
import Derived.Test.YtnoocdobldchoaaB1
import Derived.Deep.Slices
import Derived.Deep.Fields
import Derived.Deep.Grids
namespace Go.Proofs.Ytnoocdobldchoaa
open Go.RowKit Go.Proofs.YtnoocdobldchoaaW.PrintWords Go.Proofs.YtnoocdobldchoaaW.PrintMore Go.Proofs.YtnoocdobldchoaaW.PrintLast
open Go.ChangeShapes Go.WideShapes Go.Deep

def IsRowP (w : World) (A : Option Addr) (len cap : Nat) (ds : List (Int × Int)) : Prop := ds.length = len ∧ kP.C w A len ds ∧ len ≤ cap
def IsRowB (w : World) (A : Option Addr) (len cap : Nat) (bs : List Bool) : Prop := bs.length = len ∧ Kd.bool.C w A len bs ∧ len ≤ cap
section
variable {H : Type} {enc : TypeId × Value → H} {w : World} {held : Bool}
theorem row_P {t e : TypeId} {f0 f1 : Field} {fuel : Nat} {a : Option Addr} {len cap : Nat} {x : DataW H × List MemPlace} (ht : Try.prog.underlying t = some (.slice e)) (he : Try.prog.underlying e = some (.struct #[f0, f1]))
    (hone : oneCellFields Try.prog #[f0, f1] = true) (hC : Try.prog.cellsOf e = 2) (h0 : f0.type = 3) (h1 : f1.type = 3) (h : DataW.trod enc Try.prog w 0 (fun _ => true) held fuel t (Value.slice a len cap).cells.toList = some x) :
    ∃ ds, IsRowP w a len cap ds := by
  rcases open_slice ht h with ⟨hcs, _⟩ | ⟨ad, l, c, m, n, D, Pl, hcs, _, hl, hm, hmm, _, hi⟩
  · simp [Value.cells] at hcs
    obtain ⟨rfl, rfl, rfl⟩ := hcs
    exact ⟨[], rfl, ⟨rfl, by decide, fun h => absurd h (by decide)⟩, Nat.le_refl _⟩
  · simp [Value.cells] at hcs
    obtain ⟨rfl, rfl, rfl⟩ := hcs
    rw [if_pos rfl] at hmm
    subst hmm
    have key : ∀ i, i < m → ∃ p q : Int, w.cell? (ad.add (i * 2)) = some (.int .i64 p) ∧ w.cell? (ad.add (i * 2 + 1)) = some (.int .i64 q) := by
      intro i him
      obtain ⟨cs', hc, ht'⟩ := hi i him
      rw [hC] at hc
      obtain ⟨ys, n', _, _, hlen, hyl, hf⟩ := DataW.trod_struct he ht'
      obtain ⟨_, hcl, hat⟩ := World.cells?_some hc
      obtain ⟨o0, k0⟩ := hone_of hone 0 f0 rfl
      obtain ⟨o1, k1⟩ := hone_of hone 1 f1 rfl
      have e0 := hf 0 f0 rfl
      have e1 := hf 1 f1 rfl
      rw [o0, k0, h0] at e0
      rw [o1, k1, h1] at e1
      have y0 : ys[0]? = some (ys[0]'(by rw [hyl]; simp)) := List.getElem?_eq_getElem _
      have y1 : ys[1]? = some (ys[1]'(by rw [hyl]; simp)) := List.getElem?_eq_getElem _
      obtain ⟨p, hp, _⟩ := DataW.trod_int Try.underlying3 (e0.trans y0)
      obtain ⟨q, hq, _⟩ := DataW.trod_int Try.underlying3 (e1.trans y1)
      rcases cs' with _ | ⟨c0, _ | ⟨c1, _ | ⟨_, _⟩⟩⟩
      · simp at hcl
      · simp at hcl
      · simp only [List.drop_zero, List.take_succ_cons, List.take_zero, List.drop_succ_cons, List.cons.injEq, and_true] at hp hq
        subst hp
        subst hq
        have a0 := hat 0 (by omega)
        have a1 := hat 1 (by omega)
        rw [Go.Deep.add_add] at a0 a1
        exact ⟨p, q, a0, a1⟩
      · simp at hcl
    have key2 : ∀ i, ∃ pq : Int × Int, i < m → w.cell? (ad.add (i * 2)) = some (.int .i64 pq.1) ∧ w.cell? (ad.add (i * 2 + 1)) = some (.int .i64 pq.2) := fun i => by
      by_cases him : i < m
      · obtain ⟨p, q, h1, h2⟩ := key i him
        exact ⟨(p, q), fun _ => ⟨h1, h2⟩⟩
      · exact ⟨(0, 0), fun h => absurd h him⟩
    let F : Nat → Int × Int := fun i => (key2 i).choose
    have hF : ∀ i, i < m → w.cell? (ad.add (i * 2)) = some (.int .i64 (F i).1) ∧ w.cell? (ad.add (i * 2 + 1)) = some (.int .i64 (F i).2) := fun i => (key2 i).choose_spec
    refine ⟨(List.range len).map F, by simp, ⟨by simp, by unfold maxLen at hm; omega, fun _ => ⟨ad, rfl, fun j p hp => ?_⟩⟩, hl⟩
    have hj : j < len := by
      have := (List.getElem?_eq_some_iff.1 hp).1
      simpa using this
    rw [List.getElem?_map, List.getElem?_range hj] at hp
    simp only [Option.map_some, Option.some.injEq] at hp
    obtain ⟨g1, g2⟩ := hF j (by omega)
    rw [hp] at g1 g2
    refine ⟨[.int .i64 p.1, .int .i64 p.2], rfl, ⟨[.int .i64 p.1], [.int .i64 p.2], rfl, rfl, rfl⟩, fun i u hu => ?_⟩
    match i, hu with
    | 0, hu =>
      simp only [List.getElem?_cons_zero, Option.some.injEq] at hu
      rw [← hu]; exact g1
    | 1, hu =>
      simp only [List.getElem?_cons_succ, List.getElem?_cons_zero, Option.some.injEq] at hu
      rw [← hu]; exact g2
    | i + 2, hu => simp at hu
theorem row_B {t e : TypeId} {fuel : Nat} {a : Option Addr} {len cap : Nat} {x : DataW H × List MemPlace} (ht : Try.prog.underlying t = some (.slice e)) (he : Try.prog.underlying e = some .bool) (hc : Try.prog.cellsOf e = 1)
    (h : DataW.trod enc Try.prog w 0 (fun _ => true) held fuel t (Value.slice a len cap).cells.toList = some x) : ∃ bs, IsRowB w a len cap bs := by
  rcases open_bools ht he hc h with ⟨hcs, _⟩ | ⟨ad, l, c, B, hcs, _, hl, hm, _, hcell⟩
  · simp [Value.cells] at hcs
    obtain ⟨rfl, rfl, rfl⟩ := hcs
    exact ⟨[], rfl, ⟨rfl, by decide, fun h => absurd h (by decide)⟩, Nat.le_refl _⟩
  · simp [Value.cells] at hcs
    obtain ⟨rfl, rfl, rfl⟩ := hcs
    refine ⟨(List.range len).map B, by simp, ⟨by simp, by unfold maxLen at hm; omega, fun _ => ⟨ad, rfl, fun j p hp => ⟨[.bool p], rfl, rfl, fun i u hi => ?_⟩⟩⟩, hl⟩
    have hj : j < len := by
      have := (List.getElem?_eq_some_iff.1 hp).1
      simpa using this
    rw [List.getElem?_map, List.getElem?_range hj] at hp
    simp only [Option.map_some, Option.some.injEq] at hp
    match i, hi with
    | 0, hi =>
      simp only [List.getElem?_cons_zero, Option.some.injEq] at hi
      rw [← hi, ← hp]
      show w.cell? (ad.add (j * 1 + 0)) = _
      rw [Nat.mul_one, Nat.add_zero]
      exact hcell j (by omega)
    | i + 1, hi => simp at hi
end
end Go.Proofs.Ytnoocdobldchoaa
