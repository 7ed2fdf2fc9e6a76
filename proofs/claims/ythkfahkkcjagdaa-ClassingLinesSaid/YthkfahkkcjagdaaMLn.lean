/- Two rows of lines compared: what they hold, and the walk. -/
import Derived.Test.YthkfahkkcjagdaaC3
import Derived.Test.YthkfahkkcjagdaaG1
import Derived.Test.YthkfahkkcjagdaaC0
import Derived.Test.YthkfahkkcjagdaaMSh
import Derived.Test.YthkfahkkcjagdaaMV
import Derived.Test.YthkfahkkcjagdaaMRt
import Derived.Test.YthkfahkkcjagdaaRc6
import Derived.Test.YthkfahkkcjagdaaMOw
namespace Go.Proofs.Ythkfahkkcjagdaa
open Go.RowKit Go.Proofs.YthkfahkkcjagdaaW.PrintWords Go.Proofs.YthkfahkkcjagdaaW.PrintMore Go.Proofs.YthkfahkkcjagdaaW.PrintLast

/-- What a line says. -/
structure LV where
  k0 : Int
  k1 : Int
  k2 : Int
  k3 : Int
  fl : List Int
  m : Int
  ce : Int
  co : Int
/-- The cells of a line at a place, and the row of its fleeces. -/
structure LnAt (w : World) (ad : Addr) (j : Nat) (x : LV) (X : Option Addr) (d c : Nat) : Prop where
  c0 : w.cell? (ad.add (j * 8)) = some (.int .u8 x.k0)
  c1 : w.cell? ⟨(ad.add (j * 8)).block, (ad.add (j * 8)).off + 1, none⟩ = some (.int .u8 x.k1)
  c2 : w.cell? ⟨(ad.add (j * 8)).block, (ad.add (j * 8)).off + 2, none⟩ = some (.int .u8 x.k2)
  c3 : w.cell? ⟨(ad.add (j * 8)).block, (ad.add (j * 8)).off + 3, none⟩ = some (.int .u8 x.k3)
  c4 : w.cell? ⟨(ad.add (j * 8)).block, (ad.add (j * 8)).off + 4, none⟩ = some (.slice X d c)
  c5 : w.cell? ⟨(ad.add (j * 8)).block, (ad.add (j * 8)).off + 5, none⟩ = some (.int .i64 x.m)
  c6 : w.cell? ⟨(ad.add (j * 8)).block, (ad.add (j * 8)).off + 6, none⟩ = some (.int .i64 x.ce)
  c7 : w.cell? ⟨(ad.add (j * 8)).block, (ad.add (j * 8)).off + 7, none⟩ = some (.int .i64 x.co)
  r : (Kd.int .i64).C w X d x.fl
/-- A row of lines that can be read. -/
structure RdL (w : World) (A : Option Addr) (L : List LV) : Prop where
  mx : L.length ≤ 1000
  at_ : ∀ (j : Nat) (x : LV), L[j]? = some x → ∃ ad X d c, A = some ad ∧ LnAt w ad j x X d c
theorem cell_bel {w W : World} (hb : Below w.heap.size w W) {a : Addr} {v : Value} (h : w.cell? a = some v) : W.cell? a = some v := (Kp.of_below (S := fun _ => False) hb).cell h id
theorem RdL.below {w w1 : World} {A : Option Addr} {L : List LV} (h : RdL w A L) (b : Below w.heap.size w w1) : RdL w1 A L :=
  ⟨h.mx, fun j x hj => by
    obtain ⟨ad, X, d, c, e, k⟩ := h.at_ j x hj
    exact ⟨ad, X, d, c, e, cell_bel b k.c0, cell_bel b k.c1, cell_bel b k.c2, cell_bel b k.c3, cell_bel b k.c4, cell_bel b k.c5, cell_bel b k.c6, cell_bel b k.c7, Kd.C_below k.r b⟩⟩
theorem blk8L {w : World} {p : Nat} {a0 a1 a2 a3 a5 a6 a7 : Int} {X : Option Addr} {d c : Nat} (h : w.heap[p]? = some (.cells #[.int .u8 a0, .int .u8 a1, .int .u8 a2, .int .u8 a3, .slice X d c, .int .i64 a5, .int .i64 a6, .int .i64 a7] 37 (0, 0))) :
    w.cell? ⟨p, 0, none⟩ = some (.int .u8 a0) ∧ w.cell? ⟨p, 1, none⟩ = some (.int .u8 a1) ∧ w.cell? ⟨p, 2, none⟩ = some (.int .u8 a2) ∧ w.cell? ⟨p, 3, none⟩ = some (.int .u8 a3) ∧ w.cell? ⟨p, 4, none⟩ = some (.slice X d c) ∧ w.cell? ⟨p, 5, none⟩ = some (.int .i64 a5) ∧ w.cell? ⟨p, 6, none⟩ = some (.int .i64 a6) ∧ w.cell? ⟨p, 7, none⟩ = some (.int .i64 a7) := by
  have hb : Blk w p [.int .u8 a0, .int .u8 a1, .int .u8 a2, .int .u8 a3, .slice X d c, .int .i64 a5, .int .i64 a6, .int .i64 a7] 37 := h
  exact ⟨hb.at_ (i := 0) rfl, hb.at_ (i := 1) rfl, hb.at_ (i := 2) rfl, hb.at_ (i := 3) rfl, hb.at_ (i := 4) rfl, hb.at_ (i := 5) rfl, hb.at_ (i := 6) rfl, hb.at_ (i := 7) rfl⟩
theorem bcell8 {w W : World} (hb : Below w.heap.size w W) {a1 a2 a3 a4 a5 a6 : Addr} {v1 v2 v3 v4 v5 v6 : Value} (h1 : w.cell? a1 = some v1) (h2 : w.cell? a2 = some v2) (h3 : w.cell? a3 = some v3) (h4 : w.cell? a4 = some v4) (h5 : w.cell? a5 = some v5) (h6 : w.cell? a6 = some v6) :
    W.cell? a1 = some v1 ∧ W.cell? a2 = some v2 ∧ W.cell? a3 = some v3 ∧ W.cell? a4 = some v4 ∧ W.cell? a5 = some v5 ∧ W.cell? a6 = some v6 := ⟨cell_bel hb h1, cell_bel hb h2, cell_bel hb h3, cell_bel hb h4, cell_bel hb h5, cell_bel hb h6⟩
set_option maxHeartbeats 8000000 in
set_option maxRecDepth 100000 in
theorem lines24_any (w : World) (A B : Option Addr) (n c d : Nat) (L : List LV) (hn : L.length = n) (h : RdL w A L) (k : RdL w B L) :
    Calls Try.prog 24 #[.slice A n c, .slice B n d] w fun e w' => e = .returned (.bool true) ∧ Below w.heap.size w w' := by
  have hmx := h.mx
  rw [hn] at hmx
  have HN := Aside0.mk hn
  have HH := Aside0.mk (And.intro h k)
  have HSA := Aside0.mk same_yes_C
  have HKE := Aside0.mk kind_eql
  clear hn h k
  go_enter Try.func24, Try.ntmps24
  go_wp2_with fail
  go_loopw [5, 6, 7] (fun v5 _ _ wr => ∃ j : Nat, v5 = .int .i64 j ∧ j ≤ n ∧ Aside0 (Below w.heap.size w wr)) (fun v5 _ _ _ => n - (intOf v5).toNat)
  case atStart => exact ⟨0, rfl, by omega, ⟨Below.refl _ _⟩⟩
  case round =>
    obtain ⟨j, rfl, hj, HW⟩ := hrel
    by_cases hlt : j < n
    · obtain ⟨x, hx⟩ : ∃ x, L[j]? = some x := ⟨_, List.getElem?_eq_getElem (by rw [HN.out]; exact hlt)⟩
      obtain ⟨ad, gX, gd, gc, rfl, g0, g1, g2, g3, g4, g5, g6, g7, gr⟩ := (HH.out.1.below HW.out).at_ j x hx
      obtain ⟨ad2, kX, kd, kc, rfl, k0, k1, k2, k3, k4, k5, k6, k7, kr⟩ := (HH.out.2.below HW.out).at_ j x hx
      obtain ⟨x0, x1, x2, x3, xf, xm, xe, xo⟩ := x
      dsimp only at g0 g1 g2 g3 g4 g5 g6 g7 gr k0 k1 k2 k3 k4 k5 k6 k7 kr
      have hgd := Kd.C_len gr
      have hkd := Kd.C_len kr
      have HR := Aside0.mk (And.intro gr (And.intro kr (And.intro hgd hkd)))
      clear gr kr hgd hkd hx
      have al : ∀ {a : Addr} {v : Value} {W : World}, W.cell? a = some v → ∀ o, (W.alloc o).cell? a = some v := fun {a v W} h o => (World.cell?_alloc_lt W o a (World.block_lt_of_cell? W a h)).trans h
      have g0a := al g0
      have g0b := fun o => al (g0a o)
      have g1a := al g1
      have g1b := fun o => al (g1a o)
      have g2a := al g2
      have g2b := fun o => al (g2a o)
      have g3a := al g3
      have g3b := fun o => al (g3a o)
      have g4a := al g4
      have g4b := fun o => al (g4a o)
      have g5a := al g5
      have g5b := fun o => al (g5a o)
      have g6a := al g6
      have g6b := fun o => al (g6a o)
      have g7a := al g7
      have g7b := fun o => al (g7a o)
      have k0a := al k0
      have k0b := fun o => al (k0a o)
      have k1a := al k1
      have k1b := fun o => al (k1a o)
      have k2a := al k2
      have k2b := fun o => al (k2a o)
      have k3a := al k3
      have k3b := fun o => al (k3a o)
      have k4a := al k4
      have k4b := fun o => al (k4a o)
      have k5a := al k5
      have k5b := fun o => al (k5a o)
      have k6a := al k6
      have k6b := fun o => al (k6a o)
      have k7a := al k7
      have k7b := fun o => al (k7a o)
      clear al
      go_upto_region 6 with fail
      go_cut [6, 7] from 19 to 26 (fun a b w1 => ∃ p q : Nat, a = .pointer (some ⟨p, 0, none⟩) ∧ b = .pointer (some ⟨q, 0, none⟩) ∧ Aside0 (w1.heap[p]? = some (.cells #[.int .u8 x0, .int .u8 x1, .int .u8 x2, .int .u8 x3, .slice gX gd gc, .int .i64 xm, .int .i64 xe, .int .i64 xo] 37 (0, 0)) ∧ w1.heap[q]? = some (.cells #[.int .u8 x0, .int .u8 x1, .int .u8 x2, .int .u8 x3, .slice kX kd kc, .int .i64 xm, .int .i64 xe, .int .i64 xo] 37 (0, 0)) ∧ Below wr.heap.size wr w1))
      case first =>
        go_region
        all_goals go_wp2_with fail
        all_goals go_meet
        all_goals (case rel => exact ⟨_, _, rfl, rfl, ⟨by first | exact h2_0 .. | exact h2_1 .., by first | exact h2_0 .. | exact h2_1 .., h2_b ..⟩⟩)
      case rest =>
      obtain ⟨p, q, rfl, rfl, ⟨hp, hq, hbw⟩⟩ := hcut
      clear g0 g0a g0b g1 g1a g1b g2 g2a g2b g3 g3a g3b g4 g4a g4b g5 g5a g5b g6 g6a g6b g7 g7a g7b k0 k0a k0b k1 k1a k1b k2 k2a k2b k3 k3a k3b k4 k4a k4b k5 k5a k5b k6 k6a k6b k7 k7a k7b
      obtain ⟨g0, g1, g2, g3, g4, g5, g6, g7⟩ := blk8L hp
      obtain ⟨k0, k1, k2, k3, k4, k5, k6, k7⟩ := blk8L hq
      have HB := Aside0.mk (below_step HW.out hbw)
      have HR2 := Aside0.mk (And.intro (Kd.C_below HR.out.1 hbw) (Kd.C_below HR.out.2.1 hbw))
      have hd : gd = kd := by have := HR.out.2.2; omega
      subst hd
      have HS2 := Aside0.mk (HSA.out wc gX kX gd gc kc xf HR2.out.1 HR2.out.2)
      have ke : ∀ W, (Op.equalIn 10000 34 (.agg #[.int .u8 x0, .int .u8 x1, .int .u8 x2, .int .u8 x3]) (.agg #[.int .u8 x0, .int .u8 x1, .int .u8 x2, .int .u8 x3])).run Try.prog W = .ok true W := fun W => by rw [HKE.out]; simp
      clear hp hq hbw
      go_wp2_with ((with_reducible refine HS2.out.mono ?_); rintro e7 w7 ⟨rfl, hb7⟩; have HB7 := Aside0.mk (below_step HB.out hb7); have hcl := bcell8 hb7 g5 g6 g7 k5 k6 k7; clear g0 g1 g2 g3 g4 g5 g6 g7 k0 k1 k2 k3 k4 k5 k6 k7; obtain ⟨g5, g6, g7, k5, k6, k7⟩ := hcl; clear hb7)
      go_roundw
      case rel => exact ⟨j + 1, by go_num, by omega, HB7⟩
      case measure => simp [intOf]; omega
    · go_wp2_with fail
      go_ret
      exact ⟨rfl, HW.out⟩
end Go.Proofs.Ythkfahkkcjagdaa
namespace Go.Proofs.Ythkfahkkcjagdaa
open Go.RowKit Go.Proofs.YthkfahkkcjagdaaW.PrintWords Go.Proofs.YthkfahkkcjagdaaW.PrintMore Go.Proofs.YthkfahkkcjagdaaW.PrintLast

def lvOf (s : Nat → Fl) (ord : List Int) (i d : Nat) : LV := ⟨(s i).k0, (s i).k1, (s i).k2, (s i).k3, (ord.drop i).take d, massD s i d, cen s i d, costD s i (cen s i d) d⟩
theorem plan_RdL {w : World} {N n : Nat} {v : Value} {s : Nat → Fl} {ord : List Int} {least p : Int} {ls : List (Nat × Nat × Nat × Nat)} (h : PlanM w N v s ord least p n ls)
    (hx : ∀ l ∈ ls, l.2.2.1 + l.2.2.2 ≤ n ∧ 1 ≤ l.2.2.2 ∧ cO s least p l.2.2.1 l.2.2.2 ≠ none) (ho : ord.length = n) (hn : n ≤ 128) (hl : ls.length ≤ 16) :
    ∃ (B : Option Addr) (cap : Nat), v = .slice B ls.length cap ∧ RdL w B ((ls.map fun l => (l.2.2.1, l.2.2.2)).map fun x => lvOf s ord x.1 x.2) := by
  obtain ⟨B, cap, e, hc, hg⟩ := h.at_
  refine ⟨B, cap, e, by simp; omega, fun j x hj => ?_⟩
  rw [List.map_map, List.getElem?_map, Option.map_eq_some_iff] at hj
  obtain ⟨l, hl1, rfl⟩ := hj
  have hjl := (List.getElem?_eq_some_iff.1 hl1).1
  obtain ⟨ad, l', e1, e2, c0, c1, c2, c3, c4, c5, c6, c7⟩ := hg (j : Int) (by omega) (by omega)
  rw [Int.toNat_natCast] at e2 c0 c1 c2 c3 c4 c5 c6 c7
  rw [hl1] at e2
  obtain rfl := Option.some.inj e2
  have hm := List.mem_of_getElem? hl1
  obtain ⟨h1, h2, h3⟩ := hx l hm
  have h4 := line_cells h2 h1 h3
  rw [h4.2.2.1] at c6
  rw [h4.2.2.2.1] at c7
  have hlen : ((ord.drop l.2.2.1).take l.2.2.2).length = l.2.2.2 := by rw [List.length_take, List.length_drop]; omega
  exact ⟨ad, _, _, _, e1, c0, c1, c2, c3, c4, c5, c6, c7, own_ints_C (h.f l hm) hlen (by omega)⟩
theorem planL_in {fs : List Fl} {l least p : Int} {x : Nat × Nat} (hx : x ∈ planL fs l least p) : x.1 + x.2 ≤ fs.length ∧ 1 ≤ x.2 ∧ cO (sF fs (ordF fs)) least p x.1 x.2 ≠ none := by
  unfold planL at hx
  split at hx
  · rename_i hz
    obtain ⟨hE, hb⟩ := planE_zero hz
    have hr : restO (sF fs (ordF fs)) least p fs.length (bestK (sF fs (ordF fs)) least p fs.length l.toNat) 0 ≠ none := by
      intro e
      unfold bestF at hb
      rw [e] at hb
      exact absurd hb (by decide)
    exact planF_in _ 0 (Nat.zero_le _) hr x hx
  · simp at hx
theorem planL_nil {fs : List Fl} {l least p : Int} (h : 128 < fs.length) : planL fs l least p = [] := by
  unfold planL planE
  have : errE fs l least p = 3 := by unfold errE; rw [if_pos h]
  rw [this]
  simp
def ownLV (fs : List Fl) (l least p : Int) : List LV := (planL fs l least p).map fun x => lvOf (sF fs (ordF fs)) (ordF fs) x.1 x.2
/-- A plan that was given, read. -/
theorem plan_read {w : World} {N n : Nat} {v : Value} {fs : List Fl} {l least p : Int} {ls : List (Nat × Nat × Nat × Nat)} (hn : fs.length = n) (h : PlanM w N v (sF fs (ordF fs)) (ordF fs) least p n ls) (hp : ls.map (fun x => (x.2.2.1, x.2.2.2)) = planL fs l least p) :
    ∃ (B : Option Addr) (cap : Nat), v = .slice B (planL fs l least p).length cap ∧ RdL w B (ownLV fs l least p) := by
  subst hn
  have hlen : ls.length = (planL fs l least p).length := by rw [← hp, List.length_map]
  by_cases hb : 128 < fs.length
  · have hz := planL_nil (l := l) (least := least) (p := p) hb
    obtain ⟨B, cap, e, _, _⟩ := h.at_
    refine ⟨B, cap, by rw [← hlen]; exact e, ?_⟩
    unfold ownLV
    rw [hz]
    exact ⟨by simp, fun j x hj => by simp at hj⟩
  · obtain ⟨B, cap, e, hr⟩ := plan_RdL h (fun y hy => by
      have hm : (y.2.2.1, y.2.2.2) ∈ planL fs l least p := by rw [← hp]; exact List.mem_map.2 ⟨y, hy, rfl⟩
      exact planL_in hm) (ordF_length fs) (by omega) (by rw [hlen]; exact planL_len _ _ _ _)
    rw [hp] at hr
    exact ⟨B, cap, by rw [← hlen]; exact e, hr⟩
/-- The lines while their numbers are written over: the row's cells, and of each line the block of its numbers. -/
structure MutL (w : World) (N G n : Nat) (cr : List Value) : Prop where
  r : Blk w G cr 37
  f : ∀ j, j < n → ∃ g d cap, cr[j * 8 + 4]? = some (.slice (some ⟨g, 0, none⟩) d cap) ∧ N ≤ g ∧ d ≤ 1000 ∧ ∃ cs zs, Blk w g cs 3 ∧ cs.take d = ints zs ∧ zs.length = d
theorem Blk.inj {w : World} {g : Nat} {cs ds : List Value} {t u : TypeId} (h : Blk w g cs t) (k : Blk w g ds u) : cs = ds := by
  have h1 : w.heap[g]? = some (.cells cs.toArray t (0, 0)) := h
  have h2 : w.heap[g]? = some (.cells ds.toArray u (0, 0)) := k
  rw [h1] at h2
  injection h2 with h2
  injection h2 with h2
  simpa using h2
theorem MutL.set {w : World} {N G n : Nat} {cr : List Value} (h : MutL w N G n cr) {g : Nat} {cs : List Value} (hb : Blk w g cs 3) (k : Nat) (x : Int) : MutL (w.setCell ⟨g, k, none⟩ (.int .i64 x)) N G n cr := by
  refine ⟨h.r.far (Blk.ne_of_type h.r hb (by decide)) _, fun j hj => ?_⟩
  obtain ⟨g2, d, cap, e, hN, hd, cs2, zs, hb2, ht, hz⟩ := h.f j hj
  refine ⟨g2, d, cap, e, hN, hd, ?_⟩
  by_cases hg : g2 = g
  · subst hg
    obtain rfl := hb.inj hb2
    refine ⟨_, zs.set k x, hb.set k _, ?_, by rw [List.length_set]; exact hz⟩
    rw [List.take_set, ht, ints_set]
  · exact ⟨cs2, zs, hb2.far hg _, ht, hz⟩
theorem MutL.of {w : World} {N n : Nat} {v : Value} {s : Nat → Fl} {ord : List Int} {least p : Int} {ls : List (Nat × Nat × Nat × Nat)} (h : PlanM w N v s ord least p n ls) (ho : ord.length = n) (hn : n ≤ 128)
    (hx : ∀ l ∈ ls, l.2.2.1 + l.2.2.2 ≤ n) (h0 : 0 < ls.length) : ∃ G cap cr, v = .slice (some ⟨G, 0, none⟩) ls.length cap ∧ MutL w N G ls.length cr := by
  rcases h.v.2 with ⟨_, e⟩ | ⟨G, cap, cur, e, hG, hh, hcap, hmx, hsz, htk⟩
  · omega
  · refine ⟨G, cap, cur.toList, e, hh, fun j hj => ?_⟩
    have hl1 : ls[j]? = some ls[j] := List.getElem?_eq_getElem hj
    obtain ⟨l, hl⟩ : ∃ l, l = ls[j] := ⟨_, rfl⟩
    rw [← hl] at hl1
    have hm := List.mem_of_getElem? hl1
    have hc : (ls.flatMap (lcs s least p n))[j * 8 + 4]? = some (.slice (some ⟨l.1, 0, none⟩) l.2.2.2 l.2.1) := flat_lcs_get s least p n ls j 4 l _ hl1 rfl
    rw [← htk, List.getElem?_take, if_pos (by omega)] at hc
    have hle : ((ord.drop l.2.2.1).take l.2.2.2).length = l.2.2.2 := by have := hx l hm; rw [List.length_take, List.length_drop]; omega
    rcases (h.f l hm).2 with ⟨e2, _⟩ | ⟨g2, cap2, cur2, e2, hg2, hh2, hc2, hm2, hs2, ht2⟩
    · cases e2
    · cases e2
      refine ⟨l.1, l.2.2.2, _, hc, hg2, by have := hx l hm; omega, cur2.toList, _, hh2, ?_, hle⟩
      rw [← ht2, Nat.mul_one]
theorem R_ints {w : World} {b : Nat} {ok : Nat → Prop} {v : Value} {xs : List Int} (h : (Kd.int .i64).R 3 w b ok v xs) : w.ownsRow b 3 1 v xs.length (ints xs) := by
  obtain ⟨_, inner, ho, hr⟩ := h
  have hl : inner.length = xs.length * 1 := hr.1
  have e : inner = ints xs := by
    refine List.ext_getElem? fun j => ?_
    by_cases hj : j < xs.length
    · have h1 : (inner.drop (j * 1)).take 1 = [.int .i64 (xs.getD j 0)] := hr.2 j _ (by rw [List.getD_eq_getElem?_getD, List.getElem?_eq_getElem hj]; rfl)
      rw [ints_get xs hj]
      have h2 := congrArg (fun x => x[0]?) h1
      rw [List.getElem?_take, if_pos (by omega), List.getElem?_drop] at h2
      simpa using h2
    · rw [List.getElem?_eq_none (by omega), List.getElem?_eq_none (by rw [ints_length]; omega)]
  rwa [e] at ho
end Go.Proofs.Ythkfahkkcjagdaa
namespace Go.Proofs.Ythkfahkkcjagdaa
open Go.RowKit Go.Proofs.YthkfahkkcjagdaaW.PrintWords Go.Proofs.YthkfahkkcjagdaaW.PrintMore Go.Proofs.YthkfahkkcjagdaaW.PrintLast

def RLinesPost (w : World) (n : Nat) (fs : List Fl) (l least p : Int) (e : Ending) (w' : World) : Prop := ∃ (v : Value) (ls : List (Nat × Nat × Nat × Nat)), e = .returned (.tuple #[v, .int .i64 (planC fs l least p), .int .i64 (planE fs l least p)]) ∧ Below w.heap.size w w' ∧ PlanM w' w.heap.size v (sF fs (ordF fs)) (ordF fs) least p n ls ∧ ls.map (fun x => (x.2.2.1, x.2.2.2)) = planL fs l least p
/-- Which number of lines is the best of the first k. -/
def BR (f : Nat → Option Int) (k : Nat) (z : Int) : Prop := (z = -1 ∧ ∀ j, j < k → f j = none) ∨ (0 ≤ z ∧ f z.toNat ≠ none ∧ z.toNat = kB (fun m => pE (f m)) k)
section
variable {f : Nat → Option Int} {k : Nat} {z : Int} (hb : ∀ m v, f m = some v → v < 4611686018427387904)
include hb
theorem BR_none (h : BR f k z) (hk : f k = none) : BR f (k + 1) z := by
  rcases h with ⟨h1, h2⟩ | ⟨h1, h2, h3⟩
  · exact .inl ⟨h1, fun j hj => by
      rcases (show j < k ∨ j = k by omega) with h | h
      · exact h2 j h
      · rw [h]; exact hk⟩
  · refine .inr ⟨h1, h2, ?_⟩
    rw [kB, if_neg]
    · exact h3
    · show ¬ pE (f k) < pE (f (kB (fun m => pE (f m)) k))
      rw [hk, ← h3]
      cases e : f z.toNat with
      | none => exact absurd e h2
      | some v => have := hb _ v e; show ¬ (4611686018427387904 : Int) < v; omega
theorem BR_first (h : BR f k (-1)) (hk : f k ≠ none) : BR f (k + 1) k := by
  rcases h with ⟨_, h2⟩ | ⟨h1, _, _⟩
  · refine .inr ⟨by omega, by rw [Int.toNat_natCast]; exact hk, ?_⟩
    rw [Int.toNat_natCast, kB]
    rcases Nat.eq_zero_or_pos k with rfl | h0
    · split
      · rfl
      · rfl
    · rw [if_pos]
      show pE (f k) < pE (f (kB (fun m => pE (f m)) k))
      have hlt : kB (fun m => pE (f m)) k < k := by rcases kB_lt (fun m => pE (f m)) k with h | h <;> omega
      rw [h2 _ hlt]
      cases e : f k with
      | none => exact absurd e hk
      | some v => have := hb _ v e; show v < 4611686018427387904; omega
  · omega
end
section
variable {f : Nat → Option Int} {k : Nat} {z : Int}
theorem BR_less {c u : Int} (h : BR f k z) (hz : 0 ≤ z) (hc : f k = some c) (hu : f z.toNat = some u) (hcu : c < u) : BR f (k + 1) k := by
  rcases h with ⟨h1, _⟩ | ⟨_, _, h3⟩
  · omega
  · refine .inr ⟨by omega, by rw [Int.toNat_natCast, hc]; simp, ?_⟩
    rw [Int.toNat_natCast, kB, if_pos]
    show pE (f k) < pE (f (kB (fun m => pE (f m)) k))
    rw [hc, ← h3, hu]
    exact hcu
theorem BR_keep {c u : Int} (h : BR f k z) (hz : 0 ≤ z) (hc : f k = some c) (hu : f z.toNat = some u) (hcu : ¬ c < u) : BR f (k + 1) z := by
  rcases h with ⟨h1, _⟩ | ⟨h1, h2, h3⟩
  · omega
  · refine .inr ⟨h1, h2, ?_⟩
    rw [kB, if_neg]
    · exact h3
    · show ¬ pE (f k) < pE (f (kB (fun m => pE (f m)) k))
      rw [hc, ← h3, hu]
      exact hcu
end
theorem alset8 (w : World) (z0 z1 z2 z3 z4 z5 z6 z7 v0 v1 v2 v3 v4 v5 v6 v7 : Value) : ∃ W, ((((((((w.alloc (.cells #[z0, z1, z2, z3, z4, z5, z6, z7] 37)).setCell ⟨w.heap.size, 0, none⟩ v0).setCell ⟨w.heap.size, 1, none⟩ v1).setCell ⟨w.heap.size, 2, none⟩ v2).setCell ⟨w.heap.size, 3, none⟩ v3).setCell ⟨w.heap.size, 4, none⟩ v4).setCell ⟨w.heap.size, 5, none⟩ v5).setCell ⟨w.heap.size, 6, none⟩ v6).setCell ⟨w.heap.size, 7, none⟩ v7 = W ∧ Blk W w.heap.size [v0, v1, v2, v3, v4, v5, v6, v7] 37 ∧ Below w.heap.size w W := by
  refine ⟨_, rfl, ?_, ?_⟩
  · exact ((((((((Blk.new w [z0, z1, z2, z3, z4, z5, z6, z7] 37).set 0 v0).set 1 v1).set 2 v2).set 3 v3).set 4 v4).set 5 v5).set 6 v6).set 7 v7
  · refine (Below.setCell (Below.setCell (Below.setCell (Below.setCell (Below.setCell (Below.setCell (Below.setCell (Below.setCell (below_alloc (Below.refl _ _) _) ?_ _) ?_ _) ?_ _) ?_ _) ?_ _) ?_ _) ?_ _) ?_ _) <;> exact Nat.le_refl _
set_option maxHeartbeats 16000000 in
set_option maxRecDepth 100000 in
theorem rlines_any (w : World) (A : Option Addr) (n cf : Nat) (fs : List Fl) (hn0 : fs.length = n) (h : kF.C w A n fs) (hk : KOK fs) (l least p : Int) :
    Calls Try.prog 23 #[.slice A n cf, .agg #[.int .i64 l, .int .i64 least, .int .i64 p]] w (RLinesPost w n fs l least p) := by
  have b1 := below_alloc (Below.refl w.heap.size w) (.cells #[.int .i64 l, .int .i64 least, .int .i64 p] 24)
  have q1 := Blk.new w [.int .i64 l, .int .i64 least, .int .i64 p] 24
  have s0 := q1.at_ (i := 0) rfl
  have s1 := q1.at_ (i := 1) rfl
  have s2 := q1.at_ (i := 2) rfl
  have hl := errors_any _ A _ cf fs hn0 (Kd.C_below h b1) l least p
  have HB := Aside0.mk (And.intro b1 (And.intro q1 (Kd.C_below h b1)))
  have HKK := Aside0.mk hk
  have HL := Aside0.mk hl
  have nilP : ∀ W : World, PlanM W w.heap.size (.slice none 0 0) (sF fs (ordF fs)) (ordF fs) least p n [] := fun W => ⟨⟨rfl, .inl ⟨rfl, rfl⟩⟩, fun l hl => by simp at hl⟩
  have HNIL := Aside0.mk nilP
  clear nilP
  by_cases hE : errE fs l least p = 0
  · have hsp := errE_spec hE
    have hn := (errE_all hE).1
    rw [hn0] at hn
    obtain ⟨most, rfl⟩ : ∃ m : Nat, l = m := ⟨l.toNat, by omega⟩
    have hm1 : 1 ≤ most := by omega
    have hm2 : most ≤ 16 := by omega
    obtain ⟨s, hs⟩ : ∃ z, z = sF fs (ordF fs) := ⟨_, rfl⟩
    have HSO := Aside0.mk (ordF_SOK (errE_all hE).2)
    rw [hn0, ← hs] at HSO
    have HE := Aside0.mk hE
    have HN := Aside0.mk hn0
    have HSS := Aside0.mk hs
    have HCS := Aside0.mk (fun (W : World) (hW : Below (w.alloc (.cells #[.int .i64 most, .int .i64 least, .int .i64 p] 24)).heap.size (w.alloc (.cells #[.int .i64 most, .int .i64 least, .int .i64 p] 24)) W) => costs_any W A n cf fs hn0 (Kd.C_below HB.out.2.2 hW) hk most least p (errE_all hE).2 hn hsp.2.1 hsp.2.2)
    rw [← hs] at HCS
    have HFB : Aside0 (∀ m v, restO s least p n m 0 = some v → v < 4611686018427387904) := ⟨fun m v hv => by
      have := restO_bd HSO.out m 0 v (by omega) hv
      omega⟩
    have HFB2 : Aside0 (∀ m v, restO s least p n m 0 = some v → 0 ≤ v ∧ v ≤ 1374252095766528) := ⟨fun m v hv => by
      have := restO_bd HSO.out m 0 v (by omega) hv
      omega⟩
    have HYES : Aside0 (∀ K : Nat, K = kB (fun m => pE (restO s least p n m 0)) (most + 1) → restO s least p n K 0 ≠ none → planE fs most least p = 0 ∧ planC fs most least p = negO (restO s least p n K 0) ∧ planL fs most least p = planF s least p n K 0) := ⟨fun K hK hno => by
      have e1 : bestK (sF fs (ordF fs)) least p fs.length (most : Int).toNat = K := by rw [hn0, ← hs, Int.toNat_natCast, hK]; rfl
      have e2 : bestF (sF fs (ordF fs)) least p fs.length K = negO (restO s least p n K 0) := by
        rw [hn0, ← hs]
        show pE (restO s least p n K 0) = _
        cases e : restO s least p n K 0 with
        | none => exact absurd e hno
        | some v => rfl
      have e3 : bestF (sF fs (ordF fs)) least p fs.length K < 4611686018427387904 := by
        rw [e2]
        cases e : restO s least p n K 0 with
        | none => exact absurd e hno
        | some v => exact HFB.out K v e
      have a1 : planE fs most least p = 0 := by unfold planE; rw [if_pos hE, e1, if_pos e3]
      refine ⟨a1, ?_, ?_⟩
      · unfold planC; rw [if_pos a1, e1, e2]
      · unfold planL; rw [if_pos a1, e1, hn0, ← hs]⟩
    have HNO : Aside0 ((∀ j, j < most + 1 → restO s least p n j 0 = none) → planE fs most least p = 13 ∧ planC fs most least p = 0 ∧ planL fs most least p = []) := ⟨fun hno => by
      have e1 : ¬ bestF (sF fs (ordF fs)) least p fs.length (bestK (sF fs (ordF fs)) least p fs.length (most : Int).toNat) < 4611686018427387904 := by
        rw [hn0, ← hs, Int.toNat_natCast]
        have hlt : bestK s least p n most < most + 1 := by
          unfold bestK
          rcases kB_lt (bestF s least p n) (most + 1) with h | h <;> omega
        show ¬ pE (restO s least p n (bestK s least p n most) 0) < _
        rw [hno _ hlt]
        decide
      have a1 : planE fs most least p = 13 := by unfold planE; rw [if_pos hE, if_neg e1]
      refine ⟨a1, ?_, ?_⟩
      · unfold planC; rw [if_neg (by rw [a1]; decide)]
      · unfold planL; rw [if_neg (by rw [a1]; decide)]⟩
    clear h hk b1 q1 hl hE hs hsp hn0
    go_enter Try.func23, Try.ntmps23
    go_upto_region 4 with ((with_reducible refine HL.out.mono ?_); rintro e5 w5 ⟨rfl, hb5⟩; rw [HE.out]; have H5 := Aside0.mk (And.intro (below_step HB.out.1 hb5) (And.intro (HB.out.2.1.below hb5) (And.intro (Kd.C_below HB.out.2.2 hb5) hb5))); clear hb5)
    clear s0 s1 s2
    have s0 := H5.out.2.1.at_ (i := 0) rfl
    have s1 := H5.out.2.1.at_ (i := 1) rfl
    have s2 := H5.out.2.1.at_ (i := 2) rfl
    go_upto_region 5 with ((with_reducible refine (HCS.out _ H5.out.2.2.2).mono ?_); rintro e6 w6 h6; obtain ⟨v6, rs0, wb0, rfl, hc6, hl6, hb6⟩ := h6; have H6 := Aside0.mk (And.intro hc6 (And.intro hl6 hb6)); clear hc6 hl6 hb6)
    clear s0 s1 s2
    have s0 := (H5.out.2.1.below H6.out.2.2).at_ (i := 0) rfl
    have s1 := (H5.out.2.1.below H6.out.2.2).at_ (i := 1) rfl
    have s2 := (H5.out.2.1.below H6.out.2.2).at_ (i := 2) rfl
    have HRT := Aside0.mk (rests_any w6 wb0 v6 rs0 n most s least p H6.out.1 H6.out.2.1 hn hm2 HSO.out)
    go_upto_region 6 with ((with_reducible refine HRT.out.mono ?_); rintro e7 w7 h7; obtain ⟨v7, rs, rfl, ho7, hl7⟩ := h7; have HO7 := Aside0.mk (And.intro ho7 hl7); have HB7 := Aside0.mk (below_step H6.out.2.2 ho7.b); clear ho7 hl7)
    clear s0 s1 s2 HRT
    obtain ⟨A6, cap6, ev6, hc6, _⟩ := Kd.R_reads H6.out.1.o
    rw [H6.out.2.1] at ev6 hc6
    subst ev6
    obtain ⟨A7, cap7, ev7, hc7, _⟩ := Kd.R_reads HO7.out.1.o
    rw [HO7.out.2] at ev7 hc7
    subst ev7
    have HSP := Aside0.mk (fun (W : World) (hW : Below w7.heap.size w7 W) => (show W.cell? ⟨w.heap.size, 0, none⟩ = some (.int .i64 most) ∧ W.cell? ⟨w.heap.size, 1, none⟩ = some (.int .i64 least) ∧ W.cell? ⟨w.heap.size, 2, none⟩ = some (.int .i64 p) from
      ⟨((H5.out.2.1.below HB7.out).below hW).at_ (i := 0) rfl, ((H5.out.2.1.below HB7.out).below hW).at_ (i := 1) rfl, ((H5.out.2.1.below HB7.out).below hW).at_ (i := 2) rfl⟩))
    go_wp2_with fail
    go_loopw [10, 11, 12] (fun v10 v11 _ wr => ∃ (k : Nat) (z : Int) (q : Nat), v10 = .int .i64 z ∧ v11 = .int .i64 k ∧ k ≤ most + 1 ∧ (-1 ≤ z ∧ z < most + 1) ∧ Aside0 (BR (fun m => restO s least p n m 0) k z) ∧ wr = w7.drewN q) (fun _ v11 _ _ => most + 1 - (intOf v11).toNat)
    case atStart => exact ⟨0, -1, 0, rfl, rfl, by omega, by omega, ⟨.inl ⟨rfl, fun j hj => by omega⟩⟩, rfl⟩
    case round =>
      obtain ⟨k, z, q, rfl, rfl, hk, ⟨hz1, hz2⟩, HBR, rfl⟩ := hrel
      obtain ⟨s0, s1, s2⟩ := HSP.out _ (bdN w7 q)
      have hot := HO7.out.1.below (bdN w7 q)
      obtain ⟨ad, cap, ecv, hcap, g1⟩ := hot.read (a := 0) (by rw [HO7.out.2]; omega)
      rw [Addr.add_zero'] at g1
      rw [HO7.out.2] at ecv hcap
      cases ecv
      have q5 : (0 : Int) < (n : Int) + 1 := by omega
      have q6 : 0 < n + 1 := by omega
      by_cases hlt : k ≤ most
      · have hlti : (k : Int) ≤ most := by omega
        have g2 := (hot.r 0 (by rw [HO7.out.2]; omega)).at_ (ints_get _ (show k < (rsRow s least p n most 0).length by rw [rsRow_length]; omega))
        rw [rsRow_at _ _ _ _ _ (by omega)] at g2
        have hx := negO_neg (fun v h => (HFB2.out k v h).1)
        have hxs : ∀ v, negO (restO s least p n k 0) = v → v ≠ -1 → restO s least p n k 0 = some v ∧ 0 ≤ v := fun v h1 h2 => by
          cases e : restO s least p n k 0 with
          | none => rw [e] at h1; exact absurd h1.symm h2
          | some u => rw [e] at h1; have := HFB2.out k u e; obtain rfl : u = v := h1; exact ⟨rfl, this.1⟩
        have g3 : 0 ≤ z → (w7.drewN q).cell? ⟨rs.getD 0 0, z.toNat, none⟩ = some (.int .i64 (negO (restO s least p n z.toNat 0))) := fun hz => by
          have := (hot.r 0 (by rw [HO7.out.2]; omega)).at_ (ints_get _ (show z.toNat < (rsRow s least p n most 0).length by rw [rsRow_length]; omega))
          rwa [rsRow_at _ _ _ _ _ (by omega)] at this
        have hus : ∀ v, 0 ≤ z → negO (restO s least p n z.toNat 0) = v → restO s least p n z.toNat 0 = some v ∧ 0 ≤ v := fun v hz h1 => by
          rcases HBR.out with ⟨h2, _⟩ | ⟨_, h3, _⟩
          · omega
          · cases e : restO s least p n z.toNat 0 with
            | none => exact absurd e h3
            | some u => rw [e] at h1; have := HFB2.out _ u e; obtain rfl : u = v := h1; exact ⟨rfl, this.1⟩
        obtain ⟨x, hxx⟩ : ∃ z, z = negO (restO s least p n k 0) := ⟨_, rfl⟩
        obtain ⟨u, huu⟩ : ∃ z', z' = negO (restO s least p n z.toNat 0) := ⟨_, rfl⟩
        obtain ⟨r0, hr0⟩ : ∃ z, z = rs.getD 0 0 := ⟨_, rfl⟩
        rw [← hxx] at g2 hx
        rw [← huu] at g3
        rw [← hr0] at g1 g2 g3
        have HXS := Aside0.mk (hxs x hxx.symm)
        have HUS := Aside0.mk (fun hz => hus u hz huu.symm)
        clear hot hxs hus hxx huu hr0 s1 s2
        have q1 : (k : Int) < (most : Int) + 1 := by omega
        have q2 : k < most + 1 := by omega
        by_cases hx1 : x = -1
        · have HNX := Aside0.mk (BR_none HFB.out HBR.out (hx.1 hx1))
          have dx : (x != -1) = false := by simpa using hx1
          clear hx hx1 g3
          go_wp2_with fail
          go_roundw
          case rel => exact ⟨k + 1, z, q, rfl, by go_num, by omega, by omega, HNX, rfl⟩
          case measure => simp [intOf]; omega
        · have dx : (x != -1) = true := by simpa using hx1
          obtain ⟨hxe, hx0⟩ := HXS.out hx1
          have HXE := Aside0.mk hxe
          clear hx hxe
          by_cases hz0 : z = -1
          · have HNX := Aside0.mk (BR_first (f := fun m => restO s least p n m 0) (k := k) HFB.out (by have := HBR.out; rwa [hz0] at this) (by show restO s least p n k 0 ≠ none; rw [HXE.out]; simp))
            have dz : (z == -1) = true := by simpa using hz0
            clear hx1 hz0 g3
            go_wp2_with fail
            go_roundw
            case rel => exact ⟨k + 1, k, q, rfl, by go_num, by omega, by omega, HNX, rfl⟩
            case measure => simp [intOf]; omega
          · have dz : (z == -1) = false := by simpa using hz0
            have hzp : 0 ≤ z := by omega
            have g4 := g3 hzp
            obtain ⟨hue, hu0⟩ := HUS.out hzp
            have HUE := Aside0.mk hue
            clear g3 hue
            by_cases hxu : x < u
            · have HNX := Aside0.mk (BR_less (f := fun m => restO s least p n m 0) HBR.out hzp HXE.out HUE.out hxu)
              have dd : decide (x < u) = true := decide_eq_true hxu
              clear hx1 hz0
              go_wp2_with fail
              go_roundw
              case rel => exact ⟨k + 1, k, q, rfl, by go_num, by omega, by omega, HNX, rfl⟩
              case measure => simp [intOf]; omega
            · have HNX := Aside0.mk (BR_keep (f := fun m => restO s least p n m 0) HBR.out hzp HXE.out HUE.out hxu)
              have dd : decide (x < u) = false := decide_eq_false hxu
              clear hx1 hz0
              go_wp2_with fail
              go_roundw
              case rel => exact ⟨k + 1, z, q, rfl, by go_num, by omega, by omega, HNX, rfl⟩
              case measure => simp [intOf]; omega
      · have hlti : ¬ (k : Int) ≤ most := by omega
        obtain rfl : k = most + 1 := by omega
        by_cases hz0 : z = -1
        · have HV : Aside0 (planE fs most least p = 13 ∧ planC fs most least p = 0 ∧ planL fs most least p = []) := ⟨HNO.out (by
            rcases HBR.out with ⟨_, h⟩ | ⟨h, _, _⟩
            · exact h
            · omega)⟩
          have dz : (z == -1) = true := by simpa using hz0
          clear hz0
          go_wp2_with fail
          refine bodyPost_ret (v := .tuple #[.slice none 0 0, .int .i64 0, .int .i64 13]) (by simp [results, Try.results23, go_sem]) rfl ?_
          exact ⟨_, [], by rw [HV.out.1, HV.out.2.1], below_step H5.out.1 (below_step HB7.out (bdN _ _)), HNIL.out _, by rw [HV.out.2.2]; rfl⟩
        · have dz : (z == -1) = false := by simpa using hz0
          obtain ⟨K, rfl⟩ : ∃ K : Nat, z = K := ⟨z.toNat, by omega⟩
          have hKm : K ≤ most := by omega
          have HK : Aside0 (restO s least p n K 0 ≠ none ∧ K = kB (fun m => pE (restO s least p n m 0)) (most + 1)) := ⟨by
            rcases HBR.out with ⟨h, _⟩ | ⟨_, h1, h2⟩
            · omega
            · rw [Int.toNat_natCast] at h1 h2
              exact ⟨h1, h2⟩⟩
          have HV := Aside0.mk (HYES.out K HK.out.2 HK.out.1)
          have HOR := Aside0.mk (order_any (w7.drewN q) A n cf fs HN.out (Kd.C_below (Kd.C_below H5.out.2.2.1 HB7.out) (bdN w7 q)) HKK.out hn)
          clear hz0 hz1 hz2 g1 s1 s2
          go_upto_region 16 with ((with_reducible refine HOR.out.mono ?_); rintro e8 w8 ⟨v8, rfl, hr8, hb8⟩; have H8 := Aside0.mk (And.intro hr8 (below_step (bdN w7 q) hb8)); clear hr8 hb8)
          clear hot
          obtain ⟨B8, cB, hv8, hcB, hB8⟩ := Kd.R_reads H8.out.1
          rw [ordF_length, HN.out] at hv8 hcB hB8
          subst hv8
          have HLN := Aside0.mk (fun (W : World) (hW : Below w8.heap.size w8 W) (i d : Nat) (hd : 0 < d) (hid : i + d ≤ n) (j : Int) (hj : j = i + d) => rline_any W A B8 n cf cB fs HN.out (Kd.C_below (Kd.C_below H5.out.2.2.1 HB7.out) (below_step H8.out.2 hW)) HKK.out (Kd.C_below hB8 hW) most least p (errE_all HE.out).2 hn (errE_spec HE.out).2.1 (errE_spec HE.out).2.2 i d hd hid j hj)
          rw [← HSS.out] at HLN
          clear hB8
          have HSP8 := Aside0.mk (fun (W : World) (hW : Below w8.heap.size w8 W) => HSP.out W (below_step H8.out.2 hW))
          have hp0 : PlanM w8 w8.heap.size (.slice none 0 0) s (ordF fs) least p n [] := ⟨⟨rfl, .inl ⟨rfl, rfl⟩⟩, fun l hl => by simp at hl⟩
          have HP0 := Aside0.mk (And.intro HK.out.1 hp0)
          clear hp0
          go_wp2_with fail
          go_loopw [14, 15, 16, 17, 18, 19] (fun v14 v15 v16 _ _ _ wr => ∃ (kk i : Nat) (ls : List (Nat × Nat × Nat × Nat)), v16 = .int .i64 kk ∧ v15 = .int .i64 i ∧ i ≤ n ∧ kk ≤ most ∧ Aside0 (restO s least p n kk i ≠ none ∧ PlanM wr w8.heap.size v14 s (ordF fs) least p n ls ∧ ls.map (fun x => (x.2.2.1, x.2.2.2)) ++ planF s least p n kk i = planF s least p n K 0 ∧ Below w8.heap.size w8 wr ∧ ls.length + kk = K)) (fun _ _ v16 _ _ _ _ => (intOf v16).toNat)
          case atStart => exact ⟨K, 0, [], rfl, rfl, by omega, hKm, ⟨HP0.out.1, HP0.out.2, rfl, Below.refl _ _, by simp⟩⟩
          case round =>
            obtain ⟨kk, i, ls, rfl, rfl, hi, hkk, HX⟩ := hrel
            have hot := HO7.out.1.below (below_step H8.out.2 HX.out.2.2.2.1)
            cases kk with
            | zero =>
              obtain ⟨ad0, cap0, ecv, hcap0, g1⟩ := hot.read (a := 0) (by rw [HO7.out.2]; omega)
              rw [Addr.add_zero'] at g1
              rw [HO7.out.2] at ecv
              cases ecv
              have g2 := (hot.r 0 (by rw [HO7.out.2]; omega)).at_ (ints_get _ (show K < (rsRow s least p n most 0).length by rw [rsRow_length]; omega))
              rw [rsRow_at _ _ _ _ _ hKm, ← HV.out.2.1] at g2
              obtain ⟨r0, hr0⟩ : ∃ z, z = rs.getD 0 0 := ⟨_, rfl⟩
              obtain ⟨pc, hpc⟩ : ∃ z, z = planC fs most least p := ⟨_, rfl⟩
              rw [← hr0] at g1 g2
              rw [← hpc] at g2
              have HPC := Aside0.mk hpc
              clear hot hr0 hpc
              have q1 : (K : Int) < (most : Int) + 1 := by omega
              have q2 : K < most + 1 := by omega
              go_wp2_with fail
              go_quiet (fail)
              go_wp2_with fail
              refine bodyPost_ret (v := .tuple #[u14, .int .i64 pc, .int .i64 0]) (by simp [results, Try.results23, go_sem]) rfl ?_
              have hb9 := below_step H5.out.1 (below_step HB7.out (below_step H8.out.2 (below_step HX.out.2.2.2.1 (bdN wr nq))))
              refine ⟨u14, ls, by rw [HPC.out, HV.out.1], hb9, ?_, ?_⟩
              · rw [← HSS.out]
                exact (HX.out.2.1.below (bdN wr nq)).lower (Nat.le_trans H5.out.1.size (Nat.le_trans HB7.out.size H8.out.2.size))
              · rw [HV.out.2.2, ← HX.out.2.2.1, planF, List.append_nil]
            | succ k' =>
              have hcut := cut_ok HX.out.1
              have hsom := cut_some HX.out.1
              have HCUT := Aside0.mk (And.intro hcut.1 hsom)
              have hcl := hcut.2
              clear hcut hsom hot
              obtain ⟨cd, hcd⟩ : ∃ z, z = cutD s least p n k' i := ⟨_, rfl⟩
              rw [← hcd] at hcl HCUT
              have HCD := Aside0.mk hcd; clear hcd
              obtain ⟨wo, rfl⟩ : ∃ wo : World, wo = wr := ⟨_, rfl⟩
              have kpos : ((k' : Int) + 1 > 0) := by omega
              go_upto_block 4 with (fail)
              go_cut [17] from 73 to 125 (fun v17 wc => ∃ q2 : Nat, v17 = .int .i64 ((i : Int) + 1 + cd) ∧ wc = wo.drewN q2)
              case first =>
                go_wp2_with fail
                go_loopw [17] (fun v wr => ∃ (d q2 : Nat), v = .int .i64 ((i : Int) + 1 + d) ∧ d ≤ cd ∧ wr = wo.drewN q2) (fun v _ => i + 1 + cd - (intOf v).toNat)
                case atStart => exact ⟨0, 0, by go_num, by omega, rfl⟩
                case round =>
                  obtain ⟨d, q2, rfl, hd, rfl⟩ := hrel
                  by_cases hjn : i + 1 + d < n
                  · have hjni : (i : Int) + 1 + d < n := by omega
                    have djn : decide ((i : Int) + 1 + d < (n : Int)) = true := decide_eq_true hjni
                    have hbq := below_step H8.out.2 HX.out.2.2.2.1
                    have ht := H6.out.1.below (below_step HO7.out.1.b hbq)
                    have hot := HO7.out.1.below hbq
                    obtain ⟨adc, capc, ecv, hcapc, g1⟩ := ht.read (a := i) (by rw [H6.out.2.1]; omega)
                    rw [H6.out.2.1] at ecv
                    cases ecv
                    have g2 := (ht.r i (by rw [H6.out.2.1]; omega)).at_ (ints_get _ (i := i + 1 + d) (by unfold nrow; simp; omega))
                    rw [show (nrow s least p n i).getD (i + 1 + d) 0 = negO (cO s least p i (d + 1)) by
                      unfold nrow
                      rw [range_map_get _ (by omega)]
                      unfold nvR
                      rw [if_pos (by omega), show i + 1 + d - i = d + 1 by omega]] at g2
                    obtain ⟨ad1, cap1, ecv, hcap1, cr0⟩ := hot.read (a := i + 1 + d) (by rw [HO7.out.2]; omega)
                    rw [HO7.out.2] at ecv
                    cases ecv
                    have cr1 := (hot.r (i + 1 + d) (by rw [HO7.out.2]; omega)).at_ (ints_get _ (show k' < (rsRow s least p n most (i + 1 + d)).length by rw [rsRow_length]; omega))
                    rw [rsRow_at _ _ _ _ _ (by omega), show restO s least p n k' (i + 1 + d) = restO s least p n k' (i + d + 1) by rw [show i + 1 + d = i + d + 1 by omega]] at cr1
                    obtain ⟨ad2, cap2, ecv, hcap2, cs0⟩ := hot.read (a := i) (by rw [HO7.out.2]; omega)
                    rw [HO7.out.2] at ecv
                    cases ecv
                    have cs1 := (hot.r i (by rw [HO7.out.2]; omega)).at_ (ints_get _ (show k' + 1 < (rsRow s least p n most i).length by rw [rsRow_length]; omega))
                    rw [rsRow_at _ _ _ _ _ (by omega)] at cs1
                    have bx := fun v (h : cO s least p i (d + 1) = some v) => cO_bd HSO.out (by omega) (by omega) h
                    have by_ := fun v (h : restO s least p n k' (i + d + 1) = some v) => restO_bd HSO.out k' (i + d + 1) v (by omega) h
                    have hx := negO_neg (fun v h => (bx v h).1)
                    have hy := negO_neg (fun v h => (by_ v h).1)
                    have hisd : isD s least p n k' i d = true ↔ negO (cO s least p i (d + 1)) ≠ -1 ∧ negO (restO s least p n k' (i + d + 1)) ≠ -1 ∧ negO (cO s least p i (d + 1)) + negO (restO s least p n k' (i + d + 1)) = negO (restO s least p n (k' + 1) i) := by
                      rw [Ne, Ne, hx, hy]
                      unfold isD
                      rw [decide_eq_true_eq]
                      have hz := HX.out.1
                      cases e1 : cO s least p i (d + 1) with
                      | none => simp [addO]; exact fun h => hz h.symm
                      | some x' =>
                        cases e2 : restO s least p n k' (i + d + 1) with
                        | none => simp [addO]; exact fun h => hz h.symm
                        | some y' =>
                          cases e3 : restO s least p n (k' + 1) i with
                          | none => exact absurd e3 hz
                          | some z' => simp [addO, negO]
                    have hxb : negO (cO s least p i (d + 1)) ≠ -1 → 0 ≤ negO (cO s least p i (d + 1)) ∧ negO (cO s least p i (d + 1)) ≤ 1374252095766528 := fun h => by
                      cases e1 : cO s least p i (d + 1) with
                      | none => rw [e1] at h; exact absurd rfl h
                      | some x' => have := bx x' e1; show 0 ≤ x' ∧ x' ≤ _; omega
                    have hyb : negO (restO s least p n k' (i + d + 1)) ≠ -1 → 0 ≤ negO (restO s least p n k' (i + d + 1)) ∧ negO (restO s least p n k' (i + d + 1)) ≤ 1374252095766528 := fun h => by
                      cases e1 : restO s least p n k' (i + d + 1) with
                      | none => rw [e1] at h; exact absurd rfl h
                      | some x' => have := by_ x' e1; show 0 ≤ x' ∧ x' ≤ _; omega
                    obtain ⟨x, hxx⟩ : ∃ z, z = negO (cO s least p i (d + 1)) := ⟨_, rfl⟩
                    obtain ⟨y, hyy⟩ : ∃ z, z = negO (restO s least p n k' (i + d + 1)) := ⟨_, rfl⟩
                    obtain ⟨z, hzz⟩ : ∃ z, z = negO (restO s least p n (k' + 1) i) := ⟨_, rfl⟩
                    obtain ⟨ri, hri⟩ : ∃ z, z = rs0.getD i 0 := ⟨_, rfl⟩
                    obtain ⟨rk0, hrk0⟩ : ∃ z, z = rs.getD (i + 1 + d) 0 := ⟨_, rfl⟩
                    obtain ⟨rk1, hrk1⟩ : ∃ z, z = rs.getD i 0 := ⟨_, rfl⟩
                    rw [← hxx] at g2 hisd hxb
                    rw [← hyy] at cr1 hisd hyb
                    rw [← hzz] at cs1 hisd
                    rw [← hri] at g1 g2
                    rw [← hrk0] at cr0 cr1
                    rw [← hrk1] at cs0 cs1
                    clear bx by_ hx hy hxx hyy hzz ht hot hri hrk0 hrk1 hbq
                    have q1 : k' < most := by omega
                    have q2' : (0 : Int) ≤ (k' : Int) + 1 := by omega
                    have q3 : k' < most + 1 := by omega
                    have q4 : (0 : Int) ≤ (i : Int) + 1 + d := by omega
                    have q5 : (i : Int) + 1 + d < (n : Int) + 1 := by omega
                    have q6 : (i : Int) < (n : Int) + 1 := by omega
                    have q7 : i + 1 + d < n + 1 := by omega
                    have q8 : ((i : Int) + 1 + d).toNat = i + 1 + d := by omega
                    have q10 : IntKind.i64.wrap (k' : Int) = k' := IntWalk.i64_in _ (by omega)
                    have q11 : (k' : Int) < (most : Int) + 1 := by omega
                    have q12 : i < n := by omega
                    have q13 : (i : Int) < n := by omega
                    have q14 : (k' : Int) + 1 < (most : Int) + 1 := by omega
                    have q15 : k' + 1 < most + 1 := by omega
                    by_cases hx1 : x = -1
                    · have dx : (x == -1) = true := by simpa using hx1
                      have hdc : d < cd := by
                        rcases Nat.lt_or_ge d cd with h | h
                        · exact h
                        · have h4 : d = cd := by omega
                          have h5 := HCUT.out.1
                          rw [← h4] at h5
                          exact absurd hx1 (hisd.1 h5).1
                      clear hisd hyb hxb hx1
                      go_wp2_with fail
                      go_quiet (fail)
                      go_wp2_with fail
                      go_roundw
                      case rel => exact ⟨d + 1, _, by go_num, by omega, rfl⟩
                      case measure => simp [intOf]; omega
                    · have dx : (x == -1) = false := by simpa using hx1
                      obtain ⟨hx2, hx3⟩ := hxb hx1
                      clear hxb
                      by_cases hy1 : y = -1
                      · have dy : (y == -1) = true := by simpa using hy1
                        have hdc : d < cd := by
                          rcases Nat.lt_or_ge d cd with h | h
                          · exact h
                          · have h4 : d = cd := by omega
                            have h5 := HCUT.out.1
                            rw [← h4] at h5
                            exact absurd hy1 (hisd.1 h5).2.1
                        clear hisd hyb hx1 hy1
                        go_wp2_with fail
                        go_quiet (fail)
                        go_wp2_with fail
                        go_roundw
                        case rel => exact ⟨d + 1, _, by go_num, by omega, rfl⟩
                        case measure => simp [intOf]; omega
                      · have dy : (y == -1) = false := by simpa using hy1
                        obtain ⟨hy2, hy3⟩ := hyb hy1
                        have q9 : IntKind.i64.wrap (x + y) = x + y := IntWalk.i64_in _ (by omega)
                        clear hyb
                        by_cases hz1 : x + y = z
                        · have dz : (x + y != z) = false := by simpa using hz1
                          have hdc : d = cd := by
                            have h1 : isD s least p n k' i d = true := hisd.2 ⟨hx1, hy1, hz1⟩
                            have h2 := fdF_least (isD s least p n k' i) (n - i) 0 d (by omega) (by omega) h1
                            have h3 : cd ≤ d := by rw [HCD.out]; exact h2
                            omega
                          have HDC := Aside0.mk hdc
                          clear hz1 hisd hdc hx1 hy1
                          go_wp2_with fail
                          go_quiet (fail)
                          go_wp2_with fail
                          go_meet
                          case rel => exact ⟨q2 + nq, by rw [HDC.out], by first | rfl | (simp only [World.drewN]; congr 1; omega) | (unfold World.drewN; simp [Nat.add_assoc])⟩
                        · have dz : (x + y != z) = true := by simpa using hz1
                          have hdc : d < cd := by
                            rcases Nat.lt_or_ge d cd with h | h
                            · exact h
                            · have h4 : d = cd := by omega
                              have h5 := HCUT.out.1
                              rw [← h4] at h5
                              exact absurd (hisd.1 h5).2.2 hz1
                          clear hz1 hisd hx1 hy1
                          go_wp2_with fail
                          go_quiet (fail)
                          go_wp2_with fail
                          go_roundw
                          case rel => exact ⟨d + 1, _, by go_num, by omega, rfl⟩
                          case measure => simp [intOf]; omega
                  · have hjni : ¬ (i : Int) + 1 + d < n := by omega
                    have djn : decide ((i : Int) + 1 + d < (n : Int)) = false := decide_eq_false hjni
                    have hdc : d = cd := by omega
                    have HDC := Aside0.mk hdc
                    clear hdc
                    go_wp2_with fail
                    go_quiet (fail)
                    go_wp2_with fail
                    go_meet
                    case rel => exact ⟨q2 + nq, by rw [HDC.out], by first | rfl | (simp only [World.drewN]; congr 1; omega) | (unfold World.drewN; simp [Nat.add_assoc])⟩
              case rest =>
              obtain ⟨q2, rfl, rfl⟩ := hcut
              have hcin : i + (cd + 1) ≤ n := by omega
              have HLC := Aside0.mk (line_cells (s := s) (n := n) (least := least) (p := p) (i := i) (d := cd + 1) (by omega) hcin HCUT.out.2.1)
              obtain ⟨s0, s1, s2⟩ := HSP8.out wo HX.out.2.2.2.1
              obtain ⟨ce, hce⟩ : ∃ z, z = (erowF s p n i).getD (i + (cd + 1)) 0 := ⟨_, rfl⟩
              obtain ⟨co, hco⟩ : ∃ z, z = (crowF s least p n i).getD (i + (cd + 1)) 0 := ⟨_, rfl⟩
              obtain ⟨ms, hms⟩ : ∃ z, z = massD s i (cd + 1) := ⟨_, rfl⟩
              have HCC := Aside0.mk (And.intro hce (And.intro hco hms))
              clear hce hco hms
              have hline : ∀ W, Below wo.heap.size wo W → Calls Try.prog 68 #[.slice A n cf, .slice B8 n cB, .int .i64 i, .int .i64 ((i : Int) + 1 + cd), .agg #[.int .i64 most, .int .i64 least, .int .i64 p]] W fun e w' => ∃ g9 cap9 : Nat, e = .returned (.tuple #[.agg #[.int .u8 (s i).k0, .int .u8 (s i).k1, .int .u8 (s i).k2, .int .u8 (s i).k3, .slice (some ⟨g9, 0, none⟩) (cd + 1) cap9, .int .i64 ms, .int .i64 ce, .int .i64 co], .bool true]) ∧ w'.ownsRow w8.heap.size 3 1 (.slice (some ⟨g9, 0, none⟩) (cd + 1) cap9) (cd + 1) (ints (((ordF fs).drop i).take (cd + 1))) ∧ Below W.heap.size W w' := by
                intro W hW
                have hla := HLN.out W (below_step HX.out.2.2.2.1 hW) i (cd + 1) (by omega) hcin ((i : Int) + 1 + cd) (by omega)
                refine hla.mono ?_
                intro e w' hpost
                obtain ⟨A9, cc, rfl, hb, hr⟩ := rl_some hpost HLC.out.2.2.2.2
                have hlen : (((ordF fs).drop i).take (cd + 1)).length = cd + 1 := by rw [List.length_take, List.length_drop, ordF_length, HN.out]; omega
                have ho := R_ints hr
                rw [hlen] at ho ⊢
                rcases ho.2 with ⟨h1, _⟩ | ⟨g9, cap9, cur, h1, _⟩
                · cases h1
                · cases h1
                  refine ⟨g9, cc, ?_, own_lower ho (Nat.le_trans HX.out.2.2.2.1.size hW.size), hb⟩
                  rw [HCC.out.1, HCC.out.2.1, HCC.out.2.2, HLC.out.2.2.1, HLC.out.2.2.2.1]
              have HLI := Aside0.mk hline; clear hline
              have hlsl : ls.length ≤ 1000 := by have := HX.out.2.2.2.2; omega
              go_upto_region 25 with ((with_reducible refine (HLI.out _ (bdN _ _)).mono ?_); rintro e9 w9 ⟨g9, cap9, rfl, ho9, hb9⟩; have HO9 := Aside0.mk (And.intro ho9 (show Below wo.heap.size wo w9 from below_step (bdN _ _) hb9)); clear ho9 hb9)
              have h10 := Blk.new w9 [.int .u8 (s i).k0, .int .u8 (s i).k1, .int .u8 (s i).k2, .int .u8 (s i).k3, .slice (some ⟨g9, 0, none⟩) (cd + 1 : Nat) cap9, .int .i64 ms, .int .i64 ce, .int .i64 co] 37
              obtain ⟨f0, f1, f2, f3, f4, f5, f6, f7⟩ := blk8L h10
              clear h10
              have H10 := Aside0.mk (And.intro (below_alloc HO9.out.2 (.cells #[.int .u8 (s i).k0, .int .u8 (s i).k1, .int .u8 (s i).k2, .int .u8 (s i).k3, .slice (some ⟨g9, 0, none⟩) (cd + 1 : Nat) cap9, .int .i64 ms, .int .i64 ce, .int .i64 co] 37)) (pw_own_below HO9.out.1 (below_alloc (Below.refl _ _) (.cells #[.int .u8 (s i).k0, .int .u8 (s i).k1, .int .u8 (s i).k2, .int .u8 (s i).k3, .slice (some ⟨g9, 0, none⟩) (cd + 1 : Nat) cap9, .int .i64 ms, .int .i64 ce, .int .i64 co] 37))))
              generalize w9.alloc (.cells #[.int .u8 (s i).k0, .int .u8 (s i).k1, .int .u8 (s i).k2, .int .u8 (s i).k3, .slice (some ⟨g9, 0, none⟩) (cd + 1 : Nat) cap9, .int .i64 ms, .int .i64 ce, .int .i64 co] 37) = w10 at f0 f1 f2 f3 f4 f5 f6 f7 H10 ⊢
              go_upto_region 26 with ((with_reducible refine gate_builtin (b := .append) (xs := #[.tmp 135, .tmp 137]) rfl ?_); at_builtin; refine wpl_line w8 rfl (.tmp 135) (.tmp 137) rfl u14 s (ordF fs) least p n ls (HX.out.2.1.below (below_alloc H10.out.1 _)) (g9, cap9, i, cd + 1) w10.heap.size rfl rfl (by rw [show lcs s least p n (g9, cap9, i, cd + 1) = [.int .u8 (s i).k0, .int .u8 (s i).k1, .int .u8 (s i).k2, .int .u8 (s i).k3, .slice (some ⟨g9, 0, none⟩) (cd + 1 : Nat) cap9, .int .i64 ms, .int .i64 ce, .int .i64 co] by rw [HCC.out.1, HCC.out.2.1, HCC.out.2.2]; rfl]; exact heap_alloc_new _ _) (pw_own_below H10.out.2 (below_alloc (Below.refl _ _) _)) hlsl (below_step HX.out.2.2.2.1 (below_alloc H10.out.1 _)) ?_; intro gp capp w11 hp11 hb11; have H11 := Aside0.mk (And.intro hp11 hb11); clear hp11 hb11)
              go_wp2_with fail
              go_roundw
              case rel =>
                refine ⟨k', i + 1 + cd, ls ++ [(g9, cap9, i, cd + 1)], by go_num, by go_num, by omega, by omega, ⟨?_, H11.out.1, ?_, H11.out.2, by have := HX.out.2.2.2.2; rw [List.length_append]; simp; omega⟩⟩
                · have := HCUT.out.2.2
                  rw [show i + 1 + cd = i + cd + 1 by omega]
                  exact this
                · rw [← HX.out.2.2.1, List.map_append, List.append_assoc]
                  congr 1
                  rw [planF, ← HCD.out, show i + 1 + cd = i + cd + 1 by omega]
                  rfl
              case measure => simp [intOf]
  · obtain ⟨e0, he0⟩ : ∃ z, z = errE fs l least p := ⟨_, rfl⟩
    have hz : (e0 != 0) = true := by rw [he0]; simpa using hE
    have hV : planE fs l least p = e0 ∧ planC fs l least p = 0 ∧ planL fs l least p = [] := by
      have a1 : planE fs l least p = e0 := by unfold planE; rw [if_neg hE, he0]
      have a2 : planE fs l least p ≠ 0 := by rw [a1, he0]; exact hE
      exact ⟨a1, by unfold planC; rw [if_neg a2], by unfold planL; rw [if_neg a2]⟩
    have HV := Aside0.mk hV
    have HE0 := Aside0.mk he0
    have HE := Aside0.mk hE
    clear h hk b1 q1 hl hE he0 hV
    go_enter Try.func23, Try.ntmps23
    go_wp2_with ((with_reducible refine HL.out.mono ?_); rintro e5 w5 ⟨rfl, hb5⟩; rw [← HE0.out]; have HB5 := Aside0.mk (below_step HB.out.1 hb5); clear hb5)
    refine bodyPost_ret (v := .tuple #[.slice none 0 0, .int .i64 0, .int .i64 e0]) (by simp [results, Try.results23, go_sem]) rfl ?_
    exact ⟨_, [], by rw [HV.out.1, HV.out.2.1], HB5.out, HNIL.out _, by rw [HV.out.2.2]; rfl⟩
end Go.Proofs.Ythkfahkkcjagdaa
namespace Go.Proofs.Ythkfahkkcjagdaa
open Go.RowKit Go.Proofs.YthkfahkkcjagdaaW.PrintWords Go.Proofs.YthkfahkkcjagdaaW.PrintMore Go.Proofs.YthkfahkkcjagdaaW.PrintLast

/-- What both curves say. -/
def curE (fs : List Fl) (l least p : Int) : List Int := if errE fs l least p = 0 then curveL (sF fs (ordF fs)) least p fs.length l.toNat else []
theorem curE_len (fs : List Fl) (l least p : Int) : (curE fs l least p).length ≤ 16 := by
  unfold curE
  split
  · rename_i h
    rw [curveL_length]
    have := (errE_spec h).1
    omega
  · exact Nat.zero_le _
theorem curve_own {w w' : World} {fs : List Fl} {l least p : Int} {e : Ending} (h : CurvePost w fs l least p e w') : ∃ (B : Option Addr) (c : Nat), e = .returned (.tuple #[.slice B (curE fs l least p).length c, .int .i64 (errE fs l least p)]) ∧ Below w.heap.size w w' ∧ (Kd.int .i64).C w' B (curE fs l least p).length (curE fs l least p) := by
  unfold CurvePost at h
  obtain ⟨hb, h⟩ := h
  by_cases hE : errE fs l least p = 0
  · rw [if_pos hE] at h
    obtain ⟨g, rfl, hg⟩ := h
    have e1 : curE fs l least p = curveL (sF fs (ordF fs)) least p fs.length l.toNat := by unfold curE; rw [if_pos hE]
    have e2 : (curE fs l least p).length = l.toNat := by rw [e1, curveL_length]
    have hc := hg.ints_C (by rw [curveL_length]; have := (errE_spec hE).1; omega)
    rw [← e1] at hc
    exact ⟨some ⟨g, 0, none⟩, l.toNat, by rw [hE, e2], hb, hc⟩
  · rw [if_neg hE] at h
    have e1 : curE fs l least p = [] := by unfold curE; rw [if_neg hE]
    rw [e1]
    exact ⟨none, 0, h, hb, nil_C _⟩
theorem curve_ref {w w' : World} {fs : List Fl} {l least p : Int} {e : Ending} (h : RCurvePost w fs l least p e w') : ∃ (B : Option Addr) (c : Nat), e = .returned (.tuple #[.slice B (curE fs l least p).length c, .int .i64 (errE fs l least p)]) ∧ Below w.heap.size w w' ∧ (Kd.int .i64).C w' B (curE fs l least p).length (curE fs l least p) := by
  unfold RCurvePost at h
  obtain ⟨hb, h⟩ := h
  by_cases hE : errE fs l least p = 0
  · rw [if_pos hE] at h
    obtain ⟨v, rfl, hr⟩ := h
    have e1 : curE fs l least p = curveL (sF fs (ordF fs)) least p fs.length l.toNat := by unfold curE; rw [if_pos hE]
    rw [← e1] at hr
    obtain ⟨A, c, ev, _, hc⟩ := Kd.R_reads hr
    exact ⟨A, c, by rw [hE, ev], hb, hc⟩
  · rw [if_neg hE] at h
    have e1 : curE fs l least p = [] := by unfold curE; rw [if_neg hE]
    rw [e1]
    exact ⟨none, 0, h, hb, nil_C _⟩
/-- What is kept all along. -/
structure LnK (w1 wr : World) (b4 g : Nat) (fs : List Fl) (l least p : Int) (B : Option Addr) : Prop where
  b : Below w1.heap.size w1 wr
  sp : Blk wr b4 [.int .i64 l, .int .i64 least, .int .i64 p] 24
  c : Blk wr g ((fs ++ [fl7]).flatMap fcs) 44
  r : RdL wr B (ownLV fs l least p)
theorem LnK.below {w1 wr W : World} {b4 g : Nat} {fs : List Fl} {l least p : Int} {B : Option Addr} (h : LnK w1 wr b4 g fs l least p B) (hb : Below wr.heap.size wr W) : LnK w1 W b4 g fs l least p B :=
  ⟨below_step h.b hb, h.sp.below hb, h.c.below hb, h.r.below hb⟩
theorem ownLV_len (fs : List Fl) (l least p : Int) : (ownLV fs l least p).length = (planL fs l least p).length := by unfold ownLV; rw [List.length_map]
set_option maxHeartbeats 8000000 in
set_option maxRecDepth 100000 in
theorem lines7_any (w : World) (A : Option Addr) (n c : Nat) (fs : List Fl) (hn : fs.length = n) (h : kF.C w A n fs) (hk : KOK fs) (l least p : Int) :
    Calls Try.prog 7 #[.slice A n c, .agg #[.int .i64 l, .int .i64 least, .int .i64 p]] w fun e w' => e = .returned (.bool true) ∧ Below w.heap.size w w' := by
  have hmax := Kd.C_max h
  have b1 := below_alloc (Below.refl w.heap.size w) (.cells #[.int .i64 l, .int .i64 least, .int .i64 p] 24)
  have q1 := Blk.new w [.int .i64 l, .int .i64 least, .int .i64 p] 24
  have HFW := Aside0.mk (fun W => few_any W A n c hmax)
  have HAL := Aside0.mk alive_any
  have HC := Aside0.mk (And.intro hk hn)
  have H1 := Aside0.mk (And.intro b1 (And.intro q1 (Kd.C_below h b1)))
  clear h hk hn b1 q1
  by_cases h140 : (n : Int) ≤ 140
  · have hd : decide ((n : Int) ≤ 140) = true := decide_eq_true h140
    rw [hd] at HFW
    obtain ⟨ec, hec⟩ : ∃ z, z = planC fs l least p := ⟨_, rfl⟩
    obtain ⟨ee, hee⟩ : ∃ z, z = planE fs l least p := ⟨_, rfl⟩
    obtain ⟨er, her⟩ : ∃ z, z = errE fs l least p := ⟨_, rfl⟩
    obtain ⟨ln, hln⟩ : ∃ z, z = (planL fs l least p).length := ⟨_, rfl⟩
    obtain ⟨cl, hcl⟩ : ∃ z, z = (curE fs l least p).length := ⟨_, rfl⟩
    have HQ := Aside0.mk (And.intro hec (And.intro hee (And.intro her (And.intro hln hcl))))
    clear hec hee her hln hcl
    have HOW := Aside0.mk (own_any (w.alloc (.cells #[.int .i64 l, .int .i64 least, .int .i64 p] 24)) A n c fs HC.out.2 H1.out.2.2 (by omega))
    have HS7 : Aside0 (∀ (W : World) (g : Nat), Blk W g ((fs ++ [fl7]).flatMap fcs) 44 → kF.C W (some ⟨g, 0, none⟩) n fs) := ⟨fun W g hb => own_C HC.out.2 (by omega) hb⟩
    go_enter Try.func7, Try.ntmps7
    go_upto_region 3 with ((with_reducible refine (HFW.out _).mono ?_); rintro e5 w5 ⟨rfl, rfl⟩)
    generalize w.alloc (.cells #[.int .i64 l, .int .i64 least, .int .i64 p] 24) = w1 at H1 HOW ⊢
    obtain ⟨b4, hb4⟩ : ∃ z, z = w.heap.size := ⟨_, rfl⟩
    have HBW : Aside0 (Below w.heap.size w w1) := ⟨H1.out.1⟩
    rw [← hb4] at H1 ⊢
    clear hb4
    go_upto_region 4 with ((with_reducible refine HOW.out.mono ?_); rintro e6 w6 ⟨rfl, hq6, hb6⟩; have H6 := Aside0.mk (And.intro hb6 (And.intro (H1.out.2.1.below hb6) (And.intro (Kd.C_below H1.out.2.2 hb6) hq6))); clear hb6 hq6)
    obtain ⟨g, hg⟩ : ∃ z, z = w1.heap.size := ⟨_, rfl⟩
    have HB6 : Aside0 (Below w1.heap.size w1 w6) := ⟨H6.out.1⟩
    rw [← hg] at H6 ⊢
    clear hg
    have s0 := H6.out.2.1.at_ (i := 0) rfl
    have s1 := H6.out.2.1.at_ (i := 1) rfl
    have s2 := H6.out.2.1.at_ (i := 2) rfl
    have hrl := rlines_any w6 A n c fs HC.out.2 H6.out.2.2.1 HC.out.1 l least p
    have HRL := Aside0.mk hrl
    clear hrl
    go_upto_region 5 with ((with_reducible refine HRL.out.mono ?_); rintro e7 w7 h7; obtain ⟨v7, ls7, rfl, hb7, hp7, hm7⟩ := h7; rw [← HQ.out.1, ← HQ.out.2.1]; have H7 := Aside0.mk (And.intro hb7 (And.intro hp7 hm7)); clear hb7 hp7 hm7)
    clear s0 s1 s2 HRL
    obtain ⟨B7, c7, ev7, hr7⟩ := plan_read HC.out.2 H7.out.2.1 H7.out.2.2
    rw [← HQ.out.2.2.2.1] at ev7
    subst ev7
    have HB7 := Aside0.mk (below_step HB6.out H7.out.1)
    have HK7 := Aside0.mk (LnK.mk (Below.refl w7.heap.size w7) (H6.out.2.1.below H7.out.1) (H6.out.2.2.2.below H7.out.1) hr7)
    have HCA := Aside0.mk (fun (W : World) (hW : Below w7.heap.size w7 W) => Kd.C_below (Kd.C_below H6.out.2.2.1 H7.out.1) hW)
    clear hr7
    have hlm : ln ≤ 16 := by rw [HQ.out.2.2.2.1]; exact planL_len _ _ _ _
    go_wp2_with fail
    go_loopw [9, 10, 11, 12, 13, 14] (fun v9 _ _ _ _ _ wr => ∃ t : Nat, v9 = .int .i64 t ∧ t ≤ 2 ∧ Aside0 (LnK w7 wr b4 g fs l least p B7)) (fun v9 _ _ _ _ _ _ => 2 - (intOf v9).toNat)
    case atStart => exact ⟨0, rfl, by omega, HK7⟩
    case round =>
      obtain ⟨t, rfl, ht, HW⟩ := hrel
      obtain ⟨wo, rfl⟩ : ∃ wo : World, wo = wr := ⟨_, rfl⟩
      have s0 := HW.out.sp.at_ (i := 0) rfl
      have s1 := HW.out.sp.at_ (i := 1) rfl
      have s2 := HW.out.sp.at_ (i := 2) rfl
      by_cases hlt : t < 2
      · have hlti : (t : Int) < 2 := by omega
        have HLI := Aside0.mk (lines_one wo (some ⟨g, 0, none⟩) n (n + 1) fs HC.out.2 (HS7.out wo g HW.out.c) HC.out.1 l least p)
        go_upto_region 9 with ((with_reducible refine HLI.out.mono ?_); rintro e8 w8 ⟨v8, ls8, rfl, hb8, hp8, hm8⟩; rw [← HQ.out.1, ← HQ.out.2.1]; have H8 := Aside0.mk (And.intro hb8 (And.intro hp8 hm8)); clear hb8 hp8 hm8)
        clear s0 s1 s2 HLI
        obtain ⟨B8, c8, ev8, hr8⟩ := plan_read HC.out.2 H8.out.2.1 H8.out.2.2
        rw [← HQ.out.2.2.2.1] at ev8
        subst ev8
        have HK8 := Aside0.mk (HW.out.below H8.out.1)
        have HLA := Aside0.mk (lines24_any w8 B8 B7 ln c8 c7 (ownLV fs l least p) (by rw [ownLV_len, ← HQ.out.2.2.2.1]) hr8 HK8.out.r)
        have HKE := Aside0.mk (fun (W : World) (hW : Below w8.heap.size w8 W) => kept_any W A n c g fs HC.out.2 (HCA.out W (below_step HK8.out.b hW)) (by omega) (HK8.out.c.below hW))
        clear hr8
        go_upto_region 11 with (first | ((with_reducible refine HLA.out.mono ?_); rintro e9 w9 ⟨rfl, hb9⟩; have HB9 := Aside0.mk hb9; clear hb9) | ((with_reducible refine (HKE.out _ HB9.out).mono ?_); rintro e10 w10 ⟨rfl, hb10⟩; have HB10 := Aside0.mk (below_step HB9.out hb10); clear hb10))
        have HB10' := Aside0.mk (below_step H8.out.1 HB10.out)
        have hl8 : ls8.length = ln := by rw [HQ.out.2.2.2.1, ← H8.out.2.2, List.length_map]
        rcases Nat.eq_zero_or_pos ln with h0 | h0
        · subst h0
          go_wp2_with fail
          refine wp_loop_rounds 1 ?_
          rw [rounds_succ]
          go_wp2_with fail
          go_roundw
          case rel => exact ⟨t + 1, by go_num, by omega, ⟨HW.out.below HB10'.out⟩⟩
          case measure => simp [intOf]; omega
        · have hnl : n ≤ 128 := by
            rcases Nat.lt_or_ge 128 n with h | h
            · have := planL_nil (fs := fs) (l := l) (least := least) (p := p) (by rw [HC.out.2]; exact h)
              have h2 := HQ.out.2.2.2.1
              rw [this] at h2
              simp at h2
              omega
            · exact h
          obtain ⟨G, cp, cr, ev, hm⟩ := MutL.of (H8.out.2.1.below HB10.out) (by rw [ordF_length, HC.out.2]) hnl (fun y hy => by
            have hmm : (y.2.2.1, y.2.2.2) ∈ planL fs l least p := by rw [← H8.out.2.2]; exact List.mem_map.2 ⟨y, hy, rfl⟩
            have := (planL_in hmm).1
            rw [HC.out.2] at this
            exact this) (by omega)
          rw [hl8] at ev hm
          cases ev
          have HM := Aside0.mk (And.intro HB10'.out hm)
          clear hm hl8
          go_wp2_with fail
          go_loopw [13, 14] (fun v13 _ W => ∃ j : Nat, v13 = .int .i64 j ∧ j ≤ ln ∧ Aside0 (Below wo.heap.size wo W ∧ MutL W wo.heap.size G ln cr)) (fun v13 _ _ => ln - (intOf v13).toNat)
          case atStart => exact ⟨0, rfl, by omega, HM⟩
          case round =>
            obtain ⟨j, rfl, hj, HJ⟩ := hrel
            clear HM
            by_cases hjl : j < ln
            · obtain ⟨g2, d, cp2, hcr, hN2, hd2, _⟩ := HJ.out.2.f j hjl
              have HCR := Aside0.mk (And.intro hcr hN2)
              clear hcr hN2
              have hjli : (j : Int) < ln := by omega
              go_wp2_with fail
              go_loopw [14] (fun v14 W => ∃ k : Nat, v14 = .int .i64 k ∧ k ≤ d ∧ Aside0 (Below wo.heap.size wo W ∧ MutL W wo.heap.size G ln cr)) (fun v14 _ => d - (intOf v14).toNat)
              case atStart => exact ⟨0, rfl, by omega, HJ⟩
              case round =>
                obtain ⟨k, rfl, hkd, HK⟩ := hrel
                clear HJ
                have e1 := HK.out.2.r.at_ HCR.out.1
                obtain ⟨g3, d3, cp3, hcr3, hN3, _, cs, zs, hb3, ht3, hz3⟩ := HK.out.2.f j hjl
                rw [HCR.out.1] at hcr3
                cases hcr3
                by_cases hkl : k < d
                · have e2 : cs[k]? = some (.int .i64 (zs.getD k 0)) := by
                    have h1 := ints_get zs (i := k) (by omega)
                    rw [← ht3, List.getElem?_take, if_pos hkl] at h1
                    exact h1
                  have cc := hb3.at_ e2
                  have cf := hb3.free k
                  obtain ⟨y0, hy0⟩ : ∃ z, z = zs.getD k 0 := ⟨_, rfl⟩
                  rw [← hy0] at cc
                  have HST := Aside0.mk (And.intro (HK.out.1.setCell (p := ⟨g2, k, none⟩) hN3 (.int .i64 (-1))) (HK.out.2.set hb3 k (-1)))
                  clear e2 hb3 ht3 hz3 hy0 hN3
                  go_wp2_with fail
                  go_roundw
                  case rel => exact ⟨k + 1, by go_num, by omega, HST⟩
                  case measure => simp [intOf]; omega
                · clear hb3 ht3 hz3 hN3
                  go_wp2_with fail
                  go_roundw
                  case rel => exact ⟨j + 1, by go_num, by omega, HK⟩
                  case measure => simp [intOf]; omega
            · go_wp2_with fail
              go_roundw
              case rel => exact ⟨t + 1, by go_num, by omega, ⟨HW.out.below HJ.out.1⟩⟩
              case measure => simp [intOf]; omega
      · have hlti : ¬ (t : Int) < 2 := by omega
        have HCU := Aside0.mk (curve_any wo (some ⟨g, 0, none⟩) n (n + 1) fs HC.out.2 (HS7.out wo g HW.out.c) HC.out.1 l least p)
        go_upto_region 19 with ((with_reducible refine HCU.out.mono ?_); rintro e8 w8 h8; obtain ⟨B8, c8, rfl, hb8, hc8⟩ := curve_own h8; rw [← HQ.out.2.2.1, ← HQ.out.2.2.2.2]; have H8 := Aside0.mk (And.intro hb8 hc8); clear hb8 hc8 h8)
        clear s0 s1 s2 HCU
        have HK8 := Aside0.mk (HW.out.below H8.out.1)
        have s0 := HK8.out.sp.at_ (i := 0) rfl
        have s1 := HK8.out.sp.at_ (i := 1) rfl
        have s2 := HK8.out.sp.at_ (i := 2) rfl
        have HRC := Aside0.mk (rcurve_any w8 A n c fs HC.out.2 (HCA.out w8 HK8.out.b) HC.out.1 l least p)
        go_upto_region 20 with ((with_reducible refine HRC.out.mono ?_); rintro e9 w9 h9; obtain ⟨B9, c9, rfl, hb9, hc9⟩ := curve_ref h9; rw [← HQ.out.2.2.1, ← HQ.out.2.2.2.2]; have H9 := Aside0.mk (And.intro hb9 hc9); clear hb9 hc9 h9)
        clear s0 s1 s2 HRC
        have HSM := Aside0.mk (same_yes_C w9 B8 B9 cl c8 c9 (curE fs l least p) (by rw [HQ.out.2.2.2.2]; exact Kd.C_below H8.out.2 H9.out.1) (by rw [HQ.out.2.2.2.2]; exact H9.out.2))
        have HK9 := Aside0.mk (HK8.out.below H9.out.1)
        have HKE := Aside0.mk (fun (W : World) (hW : Below w9.heap.size w9 W) => kept_any W A n c g fs HC.out.2 (HCA.out W (below_step HK9.out.b hW)) (by omega) (HK9.out.c.below hW))
        have HBF := Aside0.mk (fun (W : World) (hW : Below w9.heap.size w9 W) => below_step HBW.out (below_step HB7.out (below_step HK9.out.b hW)))
        go_wp2_with (first | ((with_reducible refine HSM.out.mono ?_); rintro e10 w10 ⟨rfl, hb10⟩; have HB10 := Aside0.mk hb10; clear hb10) | ((with_reducible refine (HKE.out _ HB10.out).mono ?_); rintro e11 w11 ⟨rfl, hb11⟩; have HB11 := Aside0.mk (below_step HB10.out hb11); clear hb11) | ((with_reducible refine (HAL.out _).mono ?_); rintro e20 w20 ⟨rfl, hb20⟩; have HB20 := Aside0.mk (below_step HB11.out hb20); clear hb20))
        go_ret
        exact ⟨rfl, HBF.out _ HB20.out⟩
  · have hd : decide ((n : Int) ≤ 140) = false := decide_eq_false h140
    rw [hd] at HFW
    go_enter Try.func7, Try.ntmps7
    go_wp2_with (first | ((with_reducible refine (HFW.out _).mono ?_); rintro e5 w5 ⟨rfl, rfl⟩) | ((with_reducible refine (HAL.out _).mono ?_); rintro e6 w6 ⟨rfl, hb6⟩; have HB6 := Aside0.mk (below_step H1.out.1 hb6); clear hb6))
    go_ret
    exact ⟨rfl, HB6.out⟩
end Go.Proofs.Ythkfahkkcjagdaa
