/- The table of a classing: its memory, and how its fleeces are read in order. -/
import Derived.Test.YthkfahkkcjagdaaC3
namespace Go.Proofs.Ythkfahkkcjagdaa
open Go.RowKit Go.Proofs.YthkfahkkcjagdaaW.PrintWords Go.Proofs.YthkfahkkcjagdaaW.PrintMore Go.Proofs.YthkfahkkcjagdaaW.PrintLast

/-- The fleece at a place of the order. -/
def sF (fs : List Fl) (ord : List Int) (i : Nat) : Fl := rdF fs (ord.getD i 0)
/-- A table in memory. -/
structure TB (w : World) (bt o : Nat) (A : Option Addr) (cf : Nat) (fs : List Fl) (ord : List Int) (cv ev : Value) : Prop where
  t : Blk w bt [.slice A fs.length cf, .slice (some ⟨o, 0, none⟩) fs.length fs.length, cv, ev] 104
  o : Blk w o (ints ord) 3
  f : kF.C w A fs.length fs
  ol : ord.length = fs.length
  om : ∀ x ∈ ord, 0 ≤ x ∧ x < fs.length
theorem TB.below {w w1 : World} {bt o : Nat} {A : Option Addr} {cf : Nat} {fs : List Fl} {ord : List Int} {cv ev : Value} (h : TB w bt o A cf fs ord cv ev) (b : Below w.heap.size w w1) : TB w1 bt o A cf fs ord cv ev :=
  ⟨h.t.below b, h.o.below b, Kd.C_below h.f b, h.ol, h.om⟩
theorem TB.kp {S : Nat → Prop} {w w1 : World} {bt o : Nat} {A : Option Addr} {cf : Nat} {fs : List Fl} {ord : List Int} {cv ev : Value} (h : TB w bt o A cf fs ord cv ev) (k : Kp S w w1) (h1 : ¬ S bt) (h2 : ¬ S o) (h3 : 0 < fs.length → ∀ ad, A = some ad → ¬ S ad.block) : TB w1 bt o A cf fs ord cv ev :=
  ⟨h.t.kp k h1, h.o.kp k h2, CF_kp h.f k fun hp ad e => ⟨CF_lt h.f hp ad e, h3 hp ad e⟩, h.ol, h.om⟩
theorem getD_mem {l : List Int} {i : Nat} (h : i < l.length) : l.getD i 0 ∈ l := by
  rw [List.getD_eq_getElem?_getD, List.getElem?_eq_getElem h]
  exact List.getElem_mem h

set_option maxHeartbeats 8000000 in
set_option maxRecDepth 100000 in
theorem at_any (w : World) (bt o : Nat) (A : Option Addr) (cf : Nat) (fs : List Fl) (ord : List Int) (cv ev : Value) (h : TB w bt o A cf fs ord cv ev) (i : Int) (h0 : 0 ≤ i) (h1 : i < fs.length) :
    Calls Try.prog 105 #[.pointer (some ⟨bt, 0, none⟩), .int .i64 i] w fun e w' => e = .returned (.agg (fcs (sF fs ord i.toNat)).toArray) ∧ Below w.heap.size w w' := by
  have hb0 := below_alloc (Below.refl w.heap.size w) (.cells #[.int .u8 0, .int .u8 0, .int .u8 0, .int .u8 0, .int .i64 0, .int .i64 0] 44)
  have HT := Aside0.mk h
  have HB := Aside0.mk hb0
  have h2 := h.below hb0
  have hi : i.toNat < ord.length := by rw [h.ol]; omega
  have hm := h.om _ (getD_mem hi)
  have hx : w.cell? ⟨o, i.toNat, none⟩ = some (.int .i64 (ord.getD i.toNat 0)) := h.o.at_ (ints_get _ hi)
  have hxs : sF fs ord i.toNat = rdF fs (ord.getD i.toNat 0) := rfl
  obtain ⟨x, hxx⟩ : ∃ z, z = ord.getD i.toNat 0 := ⟨_, rfl⟩
  rw [← hxx] at hm hx hxs
  clear hxx hi
  obtain ⟨m0, m1⟩ := hm
  obtain ⟨ad, e1, g0, g1, g2, g3, g4, g5⟩ := at_F h.f x m0 m1
  subst e1
  rw [hxs]
  obtain ⟨f, hf⟩ : ∃ z, z = rdF fs x := ⟨_, rfl⟩
  rw [← hf] at g0 g1 g2 g3 g4 g5
  rw [← hf]
  clear hxs hf
  obtain ⟨p0, p1, p2, p3, p4, p5⟩ := f
  dsimp only at g0 g1 g2 g3 g4 g5
  have c0 := h.t.at_ (i := 0) rfl
  have c1 := h.t.at_ (i := 1) rfl
  clear h h2
  have al : ∀ {a : Addr} {v : Value}, w.cell? a = some v → (w.alloc (.cells #[.int .u8 0, .int .u8 0, .int .u8 0, .int .u8 0, .int .i64 0, .int .i64 0] 44)).cell? a = some v := fun {a v} h => (World.cell?_alloc_lt w _ a (World.block_lt_of_cell? w a h)).trans h
  have c0 := al c0
  have c1 := al c1
  have hx := al hx
  have g0 := al g0
  have g1 := al g1
  have g2 := al g2
  have g3 := al g3
  have g4 := al g4
  have g5 := al g5
  clear al hb0
  have BN := Blk.new w [.int .u8 0, .int .u8 0, .int .u8 0, .int .u8 0, .int .i64 0, .int .i64 0] 44
  have hlt := BN.lt
  obtain ⟨w1, hw1⟩ : ∃ z, z = w.alloc (.cells #[.int .u8 0, .int .u8 0, .int .u8 0, .int .u8 0, .int .i64 0, .int .i64 0] 44) := ⟨_, rfl⟩
  have fr := BN.free
  have HBN := Aside0.mk BN; clear BN
  go_enter Try.func105, Try.ntmps105
  go_upto_region 1 with fail
  go_region_held_law (fun W => W.cell? ⟨bt, 0, none⟩ = some (.slice (some ad) fs.length cf) ∧ W.cell? ⟨bt, 1, none⟩ = some (.slice (some ⟨o, 0, none⟩) fs.length fs.length) ∧ W.cell? ⟨o, i.toNat, none⟩ = some (.int .i64 x) ∧ W.cell? (ad.add (x.toNat * 6)) = some (.int .u8 p0) ∧ W.cell? ⟨(ad.add (x.toNat * 6)).block, (ad.add (x.toNat * 6)).off + 1, none⟩ = some (.int .u8 p1) ∧ W.cell? ⟨(ad.add (x.toNat * 6)).block, (ad.add (x.toNat * 6)).off + 2, none⟩ = some (.int .u8 p2) ∧ W.cell? ⟨(ad.add (x.toNat * 6)).block, (ad.add (x.toNat * 6)).off + 3, none⟩ = some (.int .u8 p3) ∧ W.cell? ⟨(ad.add (x.toNat * 6)).block, (ad.add (x.toNat * 6)).off + 4, none⟩ = some (.int .i64 p4) ∧ W.cell? ⟨(ad.add (x.toNat * 6)).block, (ad.add (x.toNat * 6)).off + 5, none⟩ = some (.int .i64 p5)) (go_keep) (fail)
  all_goals go_wp2_with fail
  clear g0 g1 g2 g3 g4 g5 c0 c1 hx fr
  (try simp only [Exit.inBlock, Exit.then])
  refine bodyPost_ret (v := .agg #[.int .u8 p0, .int .u8 p1, .int .u8 p2, .int .u8 p3, .int .i64 p4, .int .i64 p5]) (results_cell_row rfl _ _ w.heap.size 44 #[.int .u8 p0, .int .u8 p1, .int .u8 p2, .int .u8 p3, .int .i64 p4, .int .i64 p5] (0, 0) _ rfl ?_ Try.underlying44 rfl (by kernel_rfl)) rfl ?_
  · exact heap_alloc_new w _
  · exact ⟨rfl, below_drew (below_alloc (Below.refl _ _) _)⟩
end Go.Proofs.Ythkfahkkcjagdaa
