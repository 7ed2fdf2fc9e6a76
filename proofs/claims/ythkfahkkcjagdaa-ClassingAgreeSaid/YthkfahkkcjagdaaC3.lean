/- The comparison of two numbers of fleeces: its walk. -/
import Derived.Test.YthkfahkkcjagdaaC2
import Derived.Deep.RegionHeldLaw
namespace Go.Proofs.Ythkfahkkcjagdaa
open Go.RowKit Go.Proofs.YthkfahkkcjagdaaW.PrintWords Go.Proofs.YthkfahkkcjagdaaW.PrintMore Go.Proofs.YthkfahkkcjagdaaW.PrintLast

/-- The order of two fleeces: by kind, then by diameter. -/
def fcmp (a b : Fl) : Int := if kcmp a b = 0 then cmpI a.mic b.mic else kcmp a b
def fcf (fs : List Fl) (x y : Int) : Int := fcmp (rdF fs x) (rdF fs y)
section
variable (w : World) (c0 c1 : Array Value) (t0 t1 : TypeId)
theorem h2_0 : ((w.alloc (.cells c0 t0)).alloc (.cells c1 t1)).drew.heap[w.heap.size]? = some (.cells c0 t0 (0, 0)) := by
  show ((w.heap.push _).push _)[w.heap.size]? = _
  simp only [Array.getElem?_push, Array.size_push]
  repeat (first | rw [if_neg (by omega)] | rw [if_pos rfl] | rw [if_pos trivial])
theorem h2_1 : ((w.alloc (.cells c0 t0)).alloc (.cells c1 t1)).drew.heap[w.heap.size + 1]? = some (.cells c1 t1 (0, 0)) := by
  show ((w.heap.push _).push _)[w.heap.size + 1]? = _
  simp only [Array.getElem?_push, Array.size_push]
  repeat (first | rw [if_neg (by omega)] | rw [if_pos rfl] | rw [if_pos trivial])
theorem h2_b : Below w.heap.size w ((w.alloc (.cells c0 t0)).alloc (.cells c1 t1)).drew := below_drew (below_alloc (below_alloc (Below.refl _ _) _) _)
end

set_option maxHeartbeats 8000000 in
set_option maxRecDepth 100000 in
theorem fcmp_any (w : World) (A : Option Addr) (c b : Nat) (fs : List Fl) (h : kF.C w A fs.length fs) (hb : w.cell? ⟨b, 0, none⟩ = some (.slice A fs.length c)) (x y : Int) (hx : 0 ≤ x ∧ x < fs.length) (hy : 0 ≤ y ∧ y < fs.length) (kx : kOK (rdF fs x)) (ky : kOK (rdF fs y)) :
    Calls Try.prog 100 #[.int .i64 x, .int .i64 y, .pointer (some ⟨b, 0, none⟩)] w fun e w' => e = .returned (.int .i64 (fcf fs x y)) ∧ Below w.heap.size w w' := by
  obtain ⟨ad, e1, g0, g1, g2, g3, g4, g5⟩ := at_F h x hx.1 hx.2
  obtain ⟨ad2, e2, k0, k1, k2, k3, k4, k5⟩ := at_F h y hy.1 hy.2
  subst e1
  cases e2
  clear h
  obtain ⟨hx1, hx2⟩ := hx
  obtain ⟨hy1, hy2⟩ := hy
  have HF : Aside0 (fcf fs x y = fcmp (rdF fs x) (rdF fs y)) := ⟨rfl⟩
  obtain ⟨p, hp⟩ : ∃ z, z = rdF fs x := ⟨_, rfl⟩
  obtain ⟨q, hq⟩ : ∃ z, z = rdF fs y := ⟨_, rfl⟩
  rw [← hp] at g0 g1 g2 g3 g4 g5 kx
  rw [← hq] at k0 k1 k2 k3 k4 k5 ky
  have HPQ := Aside0.mk (And.intro hp hq)
  clear hp hq
  obtain ⟨p0, p1, p2, p3, p4, p5⟩ := p
  obtain ⟨q0, q1, q2, q3, q4, q5⟩ := q
  dsimp only at g0 g1 g2 g3 g4 g5 k0 k1 k2 k3 k4 k5
  have al : ∀ {a : Addr} {v : Value} {W : World}, W.cell? a = some v → ∀ o, (W.alloc o).cell? a = some v := fun {a v W} h o => (World.cell?_alloc_lt W o a (World.block_lt_of_cell? W a h)).trans h
  have hba := al hb
  have hbb := fun o => al (hba o)
  have g0a := al g0
  have g0b := fun o => al (g0a o)
  have g1a := al g1
  have g1b := fun o => al (g1a o)
  have g2a := al g2
  have g2b := fun o => al (g2a o)
  have g3a := al g3
  have g3b := fun o => al (g3a o)
  have g4a := al g4
  have g4b := fun o => al (g4a o)
  have g5a := al g5
  have g5b := fun o => al (g5a o)
  have k0a := al k0
  have k0b := fun o => al (k0a o)
  have k1a := al k1
  have k1b := fun o => al (k1a o)
  have k2a := al k2
  have k2b := fun o => al (k2a o)
  have k3a := al k3
  have k3b := fun o => al (k3a o)
  have k4a := al k4
  have k4b := fun o => al (k4a o)
  have k5a := al k5
  have k5b := fun o => al (k5a o)
  clear al
  have HCB := Aside0.mk (fun W (p q : Nat) (hp : Blk W p (fcs ⟨p0, p1, p2, p3, p4, p5⟩) 44) (hq : Blk W q (fcs ⟨q0, q1, q2, q3, q4, q5⟩) 44) => compareB_any W p q ⟨p0, p1, p2, p3, p4, p5⟩ ⟨q0, q1, q2, q3, q4, q5⟩ kx ky (by
    intro j x hj
    match j, hj with
    | 0, hj => cases hj; exact hp.at_ (i := 0) rfl
    | 1, hj => cases hj; exact hp.at_ (i := 1) rfl
    | 2, hj => cases hj; exact hp.at_ (i := 2) rfl
    | 3, hj => cases hj; exact hp.at_ (i := 3) rfl
    | j + 4, hj => simp at hj) (by
    intro j x hj
    match j, hj with
    | 0, hj => cases hj; exact hq.at_ (i := 0) rfl
    | 1, hj => cases hj; exact hq.at_ (i := 1) rfl
    | 2, hj => cases hj; exact hq.at_ (i := 2) rfl
    | 3, hj => cases hj; exact hq.at_ (i := 3) rfl
    | j + 4, hj => simp at hj))
  clear kx ky
  go_enter Try.func100, Try.ntmps100
  go_upto_region 1 with fail
  go_cut [6, 7] from 8 to 15 (fun a b w1 => ∃ p q : Nat, a = .pointer (some ⟨p, 0, none⟩) ∧ b = .pointer (some ⟨q, 0, none⟩) ∧ Aside0 (w1.heap[p]? = some (.cells (fcs ⟨p0, p1, p2, p3, p4, p5⟩).toArray 44 (0, 0)) ∧ w1.heap[q]? = some (.cells (fcs ⟨q0, q1, q2, q3, q4, q5⟩).toArray 44 (0, 0)) ∧ Below w.heap.size w w1))
  case first =>
    go_region
    all_goals go_wp2_with fail
    all_goals go_meet
    all_goals (case rel => exact ⟨_, _, rfl, rfl, ⟨by first | exact h2_0 .. | exact h2_1 .., by first | exact h2_0 .. | exact h2_1 .., h2_b ..⟩⟩)
  case rest =>
  obtain ⟨p, q, rfl, rfl, ⟨hp, hq, hbw⟩⟩ := hcut
  have B := Aside0.mk hbw; clear hbw
  have bp : Blk wc p (fcs ⟨p0, p1, p2, p3, p4, p5⟩) 44 := hp
  have bq : Blk wc q (fcs ⟨q0, q1, q2, q3, q4, q5⟩) 44 := hq
  have f1 := bp.at_ (i := 4) rfl
  have f3 := bq.at_ (i := 4) rfl
  have BPQ := Aside0.mk (And.intro bp bq)
  clear bp bq hp hq g0 g1 g2 g3 g4 g5 k0 k1 k2 k3 k4 k5 hb hba hbb g0a g0b g1a g1b g2a g2b g3a g3b g4a g4b g5a g5b k0a k0b k1a k1b k2a k2b k3a k3b k4a k4b k5a k5b
  have HC := Aside0.mk (fun W => compare_any W p4 q4)
  obtain ⟨z, hz⟩ : ∃ z, z = fcmp ⟨p0, p1, p2, p3, p4, p5⟩ ⟨q0, q1, q2, q3, q4, q5⟩ := ⟨_, rfl⟩
  obtain ⟨kz, hkz⟩ : ∃ z, z = kcmp ⟨p0, p1, p2, p3, p4, p5⟩ ⟨q0, q1, q2, q3, q4, q5⟩ := ⟨_, rfl⟩
  have hz2 : z = if kz = 0 then cmpI p4 q4 else kz := by rw [hz, hkz]; rfl
  have HZ := Aside0.mk (show fcf fs x y = z by rw [HF.out, ← HPQ.out.1, ← HPQ.out.2, hz])
  rw [← hkz] at HCB
  have HO := Aside0.mk (fun W b (h : Blk W b [.int .i64 kz, .int .i64 (cmpI p4 q4)] 3) => by have := or_any W b kz (cmpI p4 q4) h; rw [← hz2] at this; exact this)
  clear hz hkz hz2 HF HPQ
  go_upto_region 1 with fail
  go_region_held_law (fun W => W.cell? ⟨p, 4, none⟩ = some (.int .i64 p4) ∧ W.cell? ⟨q, 4, none⟩ = some (.int .i64 q4)) (go_keep)
    (first
      | (refine (HCB.out wc.drew p q BPQ.out.1 BPQ.out.2).mono ?_; rintro e w' ⟨rfl, rfl⟩)
      | (refine (HC.out _).mono ?_; rintro e w' ⟨rfl, rfl⟩)
      | (refine (HO.out _ _ (Blk.new wc.drew [.int .i64 kz, .int .i64 (cmpI p4 q4)] 3)).mono ?_; rintro e w' ⟨rfl, rfl⟩))
  all_goals go_wp2_with fail
  all_goals go_ret
  all_goals exact ⟨ret_int HZ.out.symm, below_step B.out (below_alloc (below_drew (Below.refl _ _)) _)⟩
end Go.Proofs.Ythkfahkkcjagdaa
