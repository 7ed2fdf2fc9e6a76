/- Subsamples: what they hold, whether they are valid, their wool; the small walks. -/
import Derived.Test.YthkfahkkcjagdaaG3
import Derived.Test.YthkfahkkcjagdaaC13
import Derived.Test.YthkfahkkcjagdaaRc2
import Derived.Test.YthkfahkkcjagdaaShf
import Derived.Test.YthkfahkkcjagdaaC10
namespace Go.Proofs.Ythkfahkkcjagdaa
open Go.RowKit Go.Proofs.YthkfahkkcjagdaaW.PrintWords Go.Proofs.YthkfahkkcjagdaaW.PrintMore Go.Proofs.YthkfahkkcjagdaaW.PrintLast

/-- A subsample. -/
structure Sb where
  raw : Int
  dry : Int
  ash : Int
  gre : Int
  veg : Int
def sbc (s : Sb) : List Value := [.int .i64 s.raw, .int .i64 s.dry, .int .i64 s.ash, .int .i64 s.gre, .int .i64 s.veg]
def sb0 : Sb := ⟨1, 0, 0, 0, 0⟩
/-- A struct of five whole numbers. -/
def kQ : Kd Sb where
  sz := 5
  E := []
  K := fun _ x cs => cs = sbc x
  M := fun _ _ _ x cs => cs = sbc x
  K_len := by rintro w x cs rfl; rfl
  K_one := by rintro w x cs rfl; simp [sbc, Value.oneCell']
  K_below := fun _ h => h
  K_of_M := fun h => h
  M_mono := fun _ h => h
  M_bound := fun h => h
  M_move := fun _ h => h
  M_lower := fun _ h => h
def rdQ (xs : List Sb) (i : Nat) : Sb := xs.getD i sb0
theorem at_Q {w : World} {A : Option Addr} {n : Nat} {xs : List Sb} (h : kQ.C w A n xs) (i : Nat) (h1 : i < n) : ∃ ad, A = some ad ∧ w.cell? (ad.add (i * 5)) = some (.int .i64 (rdQ xs i).raw) ∧ w.cell? ⟨(ad.add (i * 5)).block, (ad.add (i * 5)).off + 1, none⟩ = some (.int .i64 (rdQ xs i).dry) ∧ w.cell? ⟨(ad.add (i * 5)).block, (ad.add (i * 5)).off + 2, none⟩ = some (.int .i64 (rdQ xs i).ash) ∧ w.cell? ⟨(ad.add (i * 5)).block, (ad.add (i * 5)).off + 3, none⟩ = some (.int .i64 (rdQ xs i).gre) ∧ w.cell? ⟨(ad.add (i * 5)).block, (ad.add (i * 5)).off + 4, none⟩ = some (.int .i64 (rdQ xs i).veg) := by
  obtain ⟨ad, c, e, _, hK, hc0⟩ := Kd.C_get h sb0 (i : Int) (by omega) (by omega)
  rw [Int.toNat_natCast] at hK hc0
  have hc : ∀ j u, c[j]? = some u → w.cell? (ad.add (i * 5 + j)) = some u := hc0
  have hK' : c = sbc (rdQ xs i) := hK
  subst hK'
  exact ⟨ad, e, hc 0 _ rfl, by rw [← add_field _ _ 1 (by omega)]; exact hc 1 _ rfl, by rw [← add_field _ _ 2 (by omega)]; exact hc 2 _ rfl, by rw [← add_field _ _ 3 (by omega)]; exact hc 3 _ rfl, by rw [← add_field _ _ 4 (by omega)]; exact hc 4 _ rfl⟩
/-- It is valid. -/
structure SbOK (s : Sb) : Prop where
  r1 : 1 ≤ s.raw
  r2 : s.raw ≤ 10000
  d1 : 0 ≤ s.dry
  d2 : s.dry ≤ s.raw
  a1 : 0 ≤ s.ash
  a2 : s.ash ≤ s.dry
  g1 : 0 ≤ s.gre
  g2 : s.gre ≤ s.dry
  v1 : 0 ≤ s.veg
  v2 : s.veg ≤ s.dry
  t : s.ash + s.gre + s.veg ≤ s.dry
noncomputable def sbB (s : Sb) : Bool := @decide (SbOK s) (Classical.propDecidable _)
theorem sbB_yes {s : Sb} (h : SbOK s) : sbB s = true := by unfold sbB; simpa using h
theorem sbB_no {s : Sb} (h : ¬ SbOK s) : sbB s = false := by unfold sbB; simpa using h
def woolS (s : Sb) : Int := s.dry - s.ash - s.gre - s.veg
theorem SbOK.all {r d a g v : Int} (h : SbOK ⟨r, d, a, g, v⟩) : (1 ≤ r ∧ r ≤ 10000) ∧ (0 ≤ d ∧ d ≤ r) ∧ (0 ≤ a ∧ a ≤ d) ∧ (0 ≤ g ∧ g ≤ d) ∧ (0 ≤ v ∧ v ≤ d) ∧ a + g + v ≤ d :=
  ⟨⟨h.r1, h.r2⟩, ⟨h.d1, h.d2⟩, ⟨h.a1, h.a2⟩, ⟨h.g1, h.g2⟩, ⟨h.v1, h.v2⟩, h.t⟩
theorem SbOK.of {r d a g v : Int} (h : (1 ≤ r ∧ r ≤ 10000) ∧ (0 ≤ d ∧ d ≤ r) ∧ (0 ≤ a ∧ a ≤ d) ∧ (0 ≤ g ∧ g ≤ d) ∧ (0 ≤ v ∧ v ≤ d) ∧ a + g + v ≤ d) : SbOK ⟨r, d, a, g, v⟩ :=
  ⟨h.1.1, h.1.2, h.2.1.1, h.2.1.2, h.2.2.1.1, h.2.2.1.2, h.2.2.2.1.1, h.2.2.2.1.2, h.2.2.2.2.1.1, h.2.2.2.2.1.2, h.2.2.2.2.2⟩
set_option maxHeartbeats 4000000 in
theorem sub_any (w : World) (s : Sb) : Calls Try.prog 69 #[.agg #[.int .i64 s.raw, .int .i64 s.dry, .int .i64 s.ash, .int .i64 s.gre, .int .i64 s.veg]] w fun e w' => e = .returned (.bool (sbB s)) ∧ Below w.heap.size w w' := by
  obtain ⟨r, d, a, g, v⟩ := s
  dsimp only
  have hb := Aside0.mk (below_alloc (Below.refl w.heap.size w) (.cells #[.int .i64 r, .int .i64 d, .int .i64 a, .int .i64 g, .int .i64 v] 55))
  have HNO := Aside0.mk (fun h => sbB_no (s := ⟨r, d, a, g, v⟩) h)
  have HYE := Aside0.mk (fun h => sbB_yes (s := ⟨r, d, a, g, v⟩) h)
  obtain ⟨z, hz⟩ : ∃ z, z = sbB ⟨r, d, a, g, v⟩ := ⟨_, rfl⟩
  rw [← hz] at HNO HYE ⊢
  clear hz
  go_enter Try.func69, Try.ntmps69
  go_wp2_with fail
  all_goals
    go_ret
    refine ⟨ret_bool ?_, hb.out⟩
    first
      | (refine (HNO.out fun h => ?_).symm; have := h.all; omega)
      | (by_cases hq : a + g + v ≤ d
         · rw [HYE.out (SbOK.of (by omega)), decide_eq_true hq]
         · rw [HNO.out fun h => hq h.t, decide_eq_false hq])
set_option maxHeartbeats 4000000 in
theorem valid_any (w : World) (s : Sb) : Calls Try.prog 72 #[.agg #[.int .i64 s.raw, .int .i64 s.dry, .int .i64 s.ash, .int .i64 s.gre, .int .i64 s.veg]] w fun e w' => e = .returned (.bool (sbB s)) ∧ Below w.heap.size w w' := by
  obtain ⟨r, d, a, g, v⟩ := s
  dsimp only
  have hb := Aside0.mk (below_alloc (Below.refl w.heap.size w) (.cells #[.int .i64 r, .int .i64 d, .int .i64 a, .int .i64 g, .int .i64 v] 55))
  have HNO := Aside0.mk (fun h => sbB_no (s := ⟨r, d, a, g, v⟩) h)
  have HYE := Aside0.mk (fun h => sbB_yes (s := ⟨r, d, a, g, v⟩) h)
  obtain ⟨z, hz⟩ : ∃ z, z = sbB ⟨r, d, a, g, v⟩ := ⟨_, rfl⟩
  rw [← hz] at HNO HYE ⊢
  clear hz
  go_enter Try.func72, Try.ntmps72
  go_wp2_with fail
  all_goals
    go_ret
    refine ⟨ret_bool ?_, hb.out⟩
    first
      | (refine (HNO.out fun h => ?_).symm; have := h.all; omega)
      | (rename_i q1; exact (HYE.out (SbOK.of (by omega))).symm)
      | (by_cases hq : v ≤ d - a - g
         · rw [HYE.out (SbOK.of (by omega))]; simp; omega
         · rw [HNO.out fun h => hq (by have := h.t; dsimp only at this; omega)]; simp; omega)
      | trace_state
theorem wool_any (w : World) {s : Sb} (h : SbOK s) : Calls Try.prog 71 #[.agg #[.int .i64 s.raw, .int .i64 s.dry, .int .i64 s.ash, .int .i64 s.gre, .int .i64 s.veg]] w fun e w' => e = .returned (.int .i64 (woolS s)) ∧ Below w.heap.size w w' := by
  obtain ⟨r, d, a, g, v⟩ := s
  unfold woolS
  dsimp only
  obtain ⟨⟨r1, r2⟩, ⟨d1, d2⟩, ⟨a1, a2⟩, ⟨g1, g2⟩, ⟨v1, v2⟩, t⟩ := h.all
  have hb := Aside0.mk (below_alloc (Below.refl w.heap.size w) (.cells #[.int .i64 r, .int .i64 d, .int .i64 a, .int .i64 g, .int .i64 v] 55))
  go_enter Try.func71, Try.ntmps71
  go_wp2_with fail
  go_ret
  exact ⟨rfl, hb.out⟩
theorem rwool_any (w : World) {s : Sb} (h : SbOK s) : Calls Try.prog 75 #[.agg #[.int .i64 s.raw, .int .i64 s.dry, .int .i64 s.ash, .int .i64 s.gre, .int .i64 s.veg]] w fun e w' => e = .returned (.int .i64 (woolS s)) ∧ Below w.heap.size w w' := by
  obtain ⟨r, d, a, g, v⟩ := s
  unfold woolS
  dsimp only
  obtain ⟨⟨r1, r2⟩, ⟨d1, d2⟩, ⟨a1, a2⟩, ⟨g1, g2⟩, ⟨v1, v2⟩, t⟩ := h.all
  have hb := Aside0.mk (below_alloc (Below.refl w.heap.size w) (.cells #[.int .i64 r, .int .i64 d, .int .i64 a, .int .i64 g, .int .i64 v] 55))
  go_enter Try.func75, Try.ntmps75
  go_wp2_with fail
  go_ret
  exact ⟨rfl, hb.out⟩
end Go.Proofs.Ythkfahkkcjagdaa
namespace Go.Proofs.Ythkfahkkcjagdaa
open Go.RowKit Go.Proofs.YthkfahkkcjagdaaW.PrintWords Go.Proofs.YthkfahkkcjagdaaW.PrintMore Go.Proofs.YthkfahkkcjagdaaW.PrintLast

def gapN (a b : Sb) : Int := woolS b * a.raw - woolS a * b.raw
theorem woolS_bd {s : Sb} (h : SbOK s) : 0 ≤ woolS s ∧ woolS s ≤ 10000 := by
  have := h.t; have := h.d2; have := h.r2; have := h.a1; have := h.g1; have := h.v1
  unfold woolS; omega
theorem prod_bd {x y : Int} (h1 : 0 ≤ x) (h2 : x ≤ 10000) (h3 : 0 ≤ y) (h4 : y ≤ 10000) : 0 ≤ x * y ∧ x * y ≤ 100000000 := by
  refine ⟨Int.mul_nonneg h1 h3, ?_⟩
  have := Int.mul_le_mul h2 h4 h3 (by decide)
  omega
theorem gapN_bd {a b : Sb} (ha : SbOK a) (hb : SbOK b) : -100000000 ≤ gapN a b ∧ gapN a b ≤ 100000000 := by
  have h1 := prod_bd (woolS_bd hb).1 (woolS_bd hb).2 (by have := ha.r1; omega) ha.r2
  have h2 := prod_bd (woolS_bd ha).1 (woolS_bd ha).2 (by have := hb.r1; omega) hb.r2
  unfold gapN; omega
theorem raws_bd {a b : Sb} (ha : SbOK a) (hb : SbOK b) : 1 ≤ a.raw * b.raw ∧ a.raw * b.raw ≤ 100000000 := by
  have h2 := prod_bd (by have := ha.r1; omega) ha.r2 (by have := hb.r1; omega) hb.r2
  have h3 : 0 < a.raw * b.raw := Int.mul_pos (by have := ha.r1; omega) (by have := hb.r1; omega)
  omega
theorem hbT {w2 W : World} {P : Prop} (h : Aside0 (Below w2.heap.size w2 W) ∧ P) : Below w2.heap.size w2 W := h.1.out
set_option maxHeartbeats 4000000 in
theorem gap_any (w : World) {s t : Sb} (hs : SbOK s) (ht : SbOK t) : Calls Try.prog 122 #[.agg #[.int .i64 s.raw, .int .i64 s.dry, .int .i64 s.ash, .int .i64 s.gre, .int .i64 s.veg], .agg #[.int .i64 t.raw, .int .i64 t.dry, .int .i64 t.ash, .int .i64 t.gre, .int .i64 t.veg]] w fun e w' => e = .returned (.tuple #[.int .i64 (gapN s t), .int .i64 (s.raw * t.raw)]) ∧ Below w.heap.size w w' := by
  have HWS := Aside0.mk (fun W => wool_any W hs)
  have HWT := Aside0.mk (fun W => wool_any W ht)
  have k1 := prod_bd (woolS_bd ht).1 (woolS_bd ht).2 (by have := hs.r1; omega) hs.r2
  have k2 := prod_bd (woolS_bd hs).1 (woolS_bd hs).2 (by have := ht.r1; omega) ht.r2
  have k3 := raws_bd hs ht
  unfold gapN
  obtain ⟨sr, sd, sa, sg, sv⟩ := s
  obtain ⟨tr, td, ta, tg, tv⟩ := t
  dsimp only at HWS HWT k1 k2 k3 ⊢
  obtain ⟨ws, hws⟩ : ∃ z, z = woolS ⟨sr, sd, sa, sg, sv⟩ := ⟨_, rfl⟩
  obtain ⟨wt, hwt⟩ : ∃ z, z = woolS ⟨tr, td, ta, tg, tv⟩ := ⟨_, rfl⟩
  rw [← hws] at HWS k2 ⊢
  rw [← hwt] at HWT k1 ⊢
  have q1 : IntKind.i64.wrap (wt * sr) = wt * sr := IntWalk.i64_in _ (by omega)
  have q2 : IntKind.i64.wrap (ws * tr) = ws * tr := IntWalk.i64_in _ (by omega)
  have q3 : IntKind.i64.wrap (wt * sr - ws * tr) = wt * sr - ws * tr := IntWalk.i64_in _ (by omega)
  have q4 : IntKind.i64.wrap (sr * tr) = sr * tr := IntWalk.i64_in _ (by omega)
  have h2 := Blk.new w [.int .i64 sr, .int .i64 sd, .int .i64 sa, .int .i64 sg, .int .i64 sv] 55
  have b2 := below_alloc (Below.refl w.heap.size w) (.cells #[.int .i64 sr, .int .i64 sd, .int .i64 sa, .int .i64 sg, .int .i64 sv] 55)
  have h3 := h2.alloc (.cells #[.int .i64 tr, .int .i64 td, .int .i64 ta, .int .i64 tg, .int .i64 tv] 55)
  have h4 := Blk.new (w.alloc (.cells #[.int .i64 sr, .int .i64 sd, .int .i64 sa, .int .i64 sg, .int .i64 sv] 55)) [.int .i64 tr, .int .i64 td, .int .i64 ta, .int .i64 tg, .int .i64 tv] 55
  have b4 := below_alloc b2 (.cells #[.int .i64 tr, .int .i64 td, .int .i64 ta, .int .i64 tg, .int .i64 tv] 55)
  rw [show (w.alloc (.cells #[.int .i64 sr, .int .i64 sd, .int .i64 sa, .int .i64 sg, .int .i64 sv] 55)).heap.size = w.heap.size + 1 by simp] at h4
  have H := Aside0.mk (And.intro h3 (And.intro h4 b4))
  clear hs ht k1 k2 k3 hws hwt h2 b2 h3 h4 b4
  go_enter Try.func122, Try.ntmps122
  go_upto_region 1 with fail
  generalize ((w.alloc (.cells #[.int .i64 sr, .int .i64 sd, .int .i64 sa, .int .i64 sg, .int .i64 sv] 55)).alloc (.cells #[.int .i64 tr, .int .i64 td, .int .i64 ta, .int .i64 tg, .int .i64 tv] 55)) = w2 at H ⊢
  have HS0 := Aside0.mk (fun (W : World) (hW : Below w2.heap.size w2 W) => (show Aside0 (Below w2.heap.size w2 W) ∧ W.cell? ⟨w.heap.size, 0, none⟩ = some (.int .i64 sr) ∧ W.cell? ⟨w.heap.size, 1, none⟩ = some (.int .i64 sd) ∧ W.cell? ⟨w.heap.size, 2, none⟩ = some (.int .i64 sa) ∧ W.cell? ⟨w.heap.size, 3, none⟩ = some (.int .i64 sg) ∧ W.cell? ⟨w.heap.size, 4, none⟩ = some (.int .i64 sv) ∧ W.cell? ⟨w.heap.size + 1, 0, none⟩ = some (.int .i64 tr) ∧ W.cell? ⟨w.heap.size + 1, 1, none⟩ = some (.int .i64 td) ∧ W.cell? ⟨w.heap.size + 1, 2, none⟩ = some (.int .i64 ta) ∧ W.cell? ⟨w.heap.size + 1, 3, none⟩ = some (.int .i64 tg) ∧ W.cell? ⟨w.heap.size + 1, 4, none⟩ = some (.int .i64 tv) from
    ⟨⟨hW⟩, (H.out.1.below hW).at_ (i := 0) rfl, (H.out.1.below hW).at_ (i := 1) rfl, (H.out.1.below hW).at_ (i := 2) rfl, (H.out.1.below hW).at_ (i := 3) rfl, (H.out.1.below hW).at_ (i := 4) rfl, (H.out.2.1.below hW).at_ (i := 0) rfl, (H.out.2.1.below hW).at_ (i := 1) rfl, (H.out.2.1.below hW).at_ (i := 2) rfl, (H.out.2.1.below hW).at_ (i := 3) rfl, (H.out.2.1.below hW).at_ (i := 4) rfl⟩))
  go_region_held3 (fun W => Aside0 (Below w2.heap.size w2 W) ∧ W.cell? ⟨w.heap.size, 0, none⟩ = some (.int .i64 sr) ∧ W.cell? ⟨w.heap.size, 1, none⟩ = some (.int .i64 sd) ∧ W.cell? ⟨w.heap.size, 2, none⟩ = some (.int .i64 sa) ∧ W.cell? ⟨w.heap.size, 3, none⟩ = some (.int .i64 sg) ∧ W.cell? ⟨w.heap.size, 4, none⟩ = some (.int .i64 sv) ∧ W.cell? ⟨w.heap.size + 1, 0, none⟩ = some (.int .i64 tr) ∧ W.cell? ⟨w.heap.size + 1, 1, none⟩ = some (.int .i64 td) ∧ W.cell? ⟨w.heap.size + 1, 2, none⟩ = some (.int .i64 ta) ∧ W.cell? ⟨w.heap.size + 1, 3, none⟩ = some (.int .i64 tg) ∧ W.cell? ⟨w.heap.size + 1, 4, none⟩ = some (.int .i64 tv))
    ((refine HS0.out _ ?_; repeat (with_reducible (first | exact Below.refl _ _ | exact HB7.out | exact HB8.out | refine below_drew ?_))))
    (first
      | ((with_reducible refine (HWS.out _).mono ?_); rintro e7 w7 ⟨rfl, hb7⟩; have HB7 := Aside0.mk (below_step (hbT (by assumption)) hb7); clear hb7)
      | ((with_reducible refine (HWT.out _).mono ?_); rintro e8 w8 ⟨rfl, hb8⟩; have HB8 := Aside0.mk (below_step (hbT (by assumption)) hb8); clear hb8))
  go_wp2_with fail
  refine bodyPost_ret (v := .tuple #[.int .i64 (wt * sr - ws * tr), .int .i64 (sr * tr)]) (by simp [results, Try.results122, go_sem]) rfl ?_
  exact ⟨rfl, below_step H.out.2.2 HB7.out⟩
def cfN (xs : List Sb) (i j : Nat) : Int := cmpI (gapN (rdQ xs j) (rdQ xs i)) 0
theorem rdQ_ok {xs : List Sb} (h : ∀ s ∈ xs, SbOK s) (i : Nat) : SbOK (rdQ xs i) := by
  unfold rdQ
  rw [List.getD_eq_getElem?_getD]
  by_cases hi : i < xs.length
  · rw [List.getElem?_eq_getElem hi]
    exact h _ (List.getElem_mem hi)
  · rw [List.getElem?_eq_none (by omega)]
    exact ⟨by decide, by decide, by decide, by decide, by decide, by decide, by decide, by decide, by decide, by decide, by decide⟩
/-- A test in memory, as it is read. -/
structure TR (w : World) (bt : Nat) (A : Option Addr) (c : Nat) (xs : List Sb) (tol st : Int) (vu : Value) : Prop where
  b : Blk w bt [.bool true, .int .i64 tol, .int .i64 st, .slice A xs.length c, vu] 80
  s : kQ.C w A xs.length xs
theorem TR.below {w W : World} {bt : Nat} {A : Option Addr} {c : Nat} {xs : List Sb} {tol st : Int} {vu : Value} (h : TR w bt A c xs tol st vu) (b : Below w.heap.size w W) : TR W bt A c xs tol st vu := ⟨h.b.below b, Kd.C_below h.s b⟩
set_option maxHeartbeats 8000000 in
set_option maxRecDepth 100000 in
theorem cmpS_any (w : World) {bt bc : Nat} {A : Option Addr} {c n : Nat} {xs : List Sb} {tol st : Int} {vu : Value} (hn : xs.length = n) (h : TR w bt A c xs tol st vu) (hc : Blk w bc [.pointer (some ⟨bt, 0, none⟩)] 77) (hok : ∀ s ∈ xs, SbOK s) (i j : Nat) (hi : i < n) (hj : j < n) :
    Calls Try.prog 121 #[.int .i64 i, .int .i64 j, .pointer (some ⟨bc, 0, none⟩)] w fun e w' => e = .returned (.int .i64 (cfN xs i j)) ∧ Below w.heap.size w w' := by
  subst hn
  obtain ⟨ad, rfl, _⟩ := at_Q h.s i hi
  have HS0 := Aside0.mk (fun (W : World) (hW : Below w.heap.size w W) => (by
    obtain ⟨ad1, e1, c0, c1, c2, c3, c4⟩ := at_Q (h.below hW).s j hj
    cases e1
    obtain ⟨ad1, e1, d0, d1, d2, d3, d4⟩ := at_Q (h.below hW).s i hi
    cases e1
    exact ⟨⟨hW⟩, (hc.below hW).at_ (i := 0) rfl, (h.b.below hW).at_ (i := 3) rfl, c0, c1, c2, c3, c4, d0, d1, d2, d3, d4⟩ : Aside0 (Below w.heap.size w W) ∧ W.cell? ⟨bc, 0, none⟩ = some (.pointer (some ⟨bt, 0, none⟩)) ∧ W.cell? ⟨bt, 3, none⟩ = some (.slice (some ad) xs.length c) ∧ W.cell? (ad.add (j * 5)) = some (.int .i64 (rdQ xs j).raw) ∧ W.cell? ⟨(ad.add (j * 5)).block, (ad.add (j * 5)).off + 1, none⟩ = some (.int .i64 (rdQ xs j).dry) ∧ W.cell? ⟨(ad.add (j * 5)).block, (ad.add (j * 5)).off + 2, none⟩ = some (.int .i64 (rdQ xs j).ash) ∧ W.cell? ⟨(ad.add (j * 5)).block, (ad.add (j * 5)).off + 3, none⟩ = some (.int .i64 (rdQ xs j).gre) ∧ W.cell? ⟨(ad.add (j * 5)).block, (ad.add (j * 5)).off + 4, none⟩ = some (.int .i64 (rdQ xs j).veg) ∧ W.cell? (ad.add (i * 5)) = some (.int .i64 (rdQ xs i).raw) ∧ W.cell? ⟨(ad.add (i * 5)).block, (ad.add (i * 5)).off + 1, none⟩ = some (.int .i64 (rdQ xs i).dry) ∧ W.cell? ⟨(ad.add (i * 5)).block, (ad.add (i * 5)).off + 2, none⟩ = some (.int .i64 (rdQ xs i).ash) ∧ W.cell? ⟨(ad.add (i * 5)).block, (ad.add (i * 5)).off + 3, none⟩ = some (.int .i64 (rdQ xs i).gre) ∧ W.cell? ⟨(ad.add (i * 5)).block, (ad.add (i * 5)).off + 4, none⟩ = some (.int .i64 (rdQ xs i).veg)))
  have HG := Aside0.mk (fun W => gap_any W (rdQ_ok hok j) (rdQ_ok hok i))
  have hbd := gapN_bd (rdQ_ok hok j) (rdQ_ok hok i)
  obtain ⟨z, hz⟩ : ∃ z, z = gapN (rdQ xs j) (rdQ xs i) := ⟨_, rfl⟩
  have HCM := Aside0.mk (fun W => compare_any W z 0)
  have HCF : Aside0 (cfN xs i j = cmpI z 0) := ⟨by unfold cfN; rw [← hz]⟩
  rw [← hz] at HG hbd
  generalize rdQ xs j = P at HS0 HG
  generalize rdQ xs i = Q at HS0 HG
  obtain ⟨pr, pd, pa, pg, pv⟩ := P
  obtain ⟨qr, qd, qa, qg, qv⟩ := Q
  dsimp only at HS0 HG
  obtain ⟨n, hn⟩ : ∃ z, z = xs.length := ⟨_, rfl⟩
  rw [← hn] at hi hj HS0
  have hii : (i : Int) < n := by omega
  have hji : (j : Int) < n := by omega
  clear hn hz h hc hok
  go_enter Try.func121, Try.ntmps121
  go_upto_region 1 with fail
  go_region_held3 (fun W => Aside0 (Below w.heap.size w W) ∧ W.cell? ⟨bc, 0, none⟩ = some (.pointer (some ⟨bt, 0, none⟩)) ∧ W.cell? ⟨bt, 3, none⟩ = some (.slice (some ad) n c) ∧ W.cell? (ad.add (j * 5)) = some (.int .i64 pr) ∧ W.cell? ⟨(ad.add (j * 5)).block, (ad.add (j * 5)).off + 1, none⟩ = some (.int .i64 pd) ∧ W.cell? ⟨(ad.add (j * 5)).block, (ad.add (j * 5)).off + 2, none⟩ = some (.int .i64 pa) ∧ W.cell? ⟨(ad.add (j * 5)).block, (ad.add (j * 5)).off + 3, none⟩ = some (.int .i64 pg) ∧ W.cell? ⟨(ad.add (j * 5)).block, (ad.add (j * 5)).off + 4, none⟩ = some (.int .i64 pv) ∧ W.cell? (ad.add (i * 5)) = some (.int .i64 qr) ∧ W.cell? ⟨(ad.add (i * 5)).block, (ad.add (i * 5)).off + 1, none⟩ = some (.int .i64 qd) ∧ W.cell? ⟨(ad.add (i * 5)).block, (ad.add (i * 5)).off + 2, none⟩ = some (.int .i64 qa) ∧ W.cell? ⟨(ad.add (i * 5)).block, (ad.add (i * 5)).off + 3, none⟩ = some (.int .i64 qg) ∧ W.cell? ⟨(ad.add (i * 5)).block, (ad.add (i * 5)).off + 4, none⟩ = some (.int .i64 qv))
    ((refine HS0.out _ ?_; repeat (with_reducible (first | exact Below.refl _ _ | exact HB7.out | refine below_drew ?_))))
    (first | ((with_reducible refine (HG.out _).mono ?_); rintro e7 w7 ⟨rfl, hb7⟩; have HB7 := Aside0.mk (below_step (hbT (by assumption)) hb7); clear hb7))
  all_goals go_wp2_with ((with_reducible refine (HCM.out _).mono ?_); rintro e w' ⟨rfl, rfl⟩)
  all_goals go_ret
  all_goals exact ⟨ret_int HCF.out.symm, HB7.out⟩
end Go.Proofs.Ythkfahkkcjagdaa
namespace Go.Proofs.Ythkfahkkcjagdaa
open Go.RowKit Go.Proofs.YthkfahkkcjagdaaW.PrintWords Go.Proofs.YthkfahkkcjagdaaW.PrintMore Go.Proofs.YthkfahkkcjagdaaW.PrintLast

def cfS (xs : List Sb) (x y : Int) : Int := cfN xs x.toNat y.toNat
theorem cfN_neg {xs : List Sb} {i j : Nat} : cfN xs i j < 0 ↔ woolS (rdQ xs i) * (rdQ xs j).raw < woolS (rdQ xs j) * (rdQ xs i).raw := by
  unfold cfN cmpI gapN
  (repeat' split) <;> omega
theorem cfN_pos {xs : List Sb} {i j : Nat} : 0 < cfN xs i j ↔ woolS (rdQ xs j) * (rdQ xs i).raw < woolS (rdQ xs i) * (rdQ xs j).raw := by
  unfold cfN cmpI gapN
  (repeat' split) <;> omega
theorem cross_le {a b c ra rb rc : Int} (h1 : a * rb ≤ b * ra) (h2 : b * rc ≤ c * rb) (ha : 0 < ra) (hb : 0 < rb) (hc : 0 < rc) : a * rc ≤ c * ra := by
  refine Int.le_of_mul_le_mul_left (a := rb) ?_ hb
  have e1 := Int.mul_le_mul_of_nonneg_right h1 (Int.le_of_lt hc)
  have e2 := Int.mul_le_mul_of_nonneg_right h2 (Int.le_of_lt ha)
  have r1 : rb * (a * rc) = a * rb * rc := by rw [Int.mul_left_comm, Int.mul_assoc]
  have r2 : b * ra * rc = b * rc * ra := by rw [Int.mul_assoc, Int.mul_comm ra, ← Int.mul_assoc]
  have r3 : rb * (c * ra) = c * rb * ra := by rw [Int.mul_left_comm, Int.mul_assoc]
  omega
theorem cfS_law {xs : List Sb} (h : ∀ s ∈ xs, SbOK s) : CmpLaw (cfS xs) where
  anti := fun x y => by
    unfold cfS
    rw [cfN_neg, cfN_pos]
  trans := fun x y z h1 h2 => by
    unfold cfS at *
    have a : ¬ 0 < cfN xs x.toNat y.toNat := by omega
    have b : ¬ 0 < cfN xs y.toNat z.toNat := by omega
    rw [cfN_pos] at a b
    have c : ¬ 0 < cfN xs x.toNat z.toNat := by
      rw [cfN_pos]
      have := cross_le (a := woolS (rdQ xs x.toNat)) (b := woolS (rdQ xs y.toNat)) (c := woolS (rdQ xs z.toNat)) (ra := (rdQ xs x.toNat).raw) (rb := (rdQ xs y.toNat).raw) (rc := (rdQ xs z.toNat).raw) (by omega) (by omega) (by have := (rdQ_ok h x.toNat).r1; omega) (by have := (rdQ_ok h y.toNat).r1; omega) (by have := (rdQ_ok h z.toNat).r1; omega)
      omega
    omega
/-- The order of the subsamples. -/
def ordS (xs : List Sb) : List Int := srt (cfS xs) (upto xs.length)
theorem ordS_perm (xs : List Sb) : (ordS xs).Perm (upto xs.length) := srt_perm' _ _
theorem ordS_length (xs : List Sb) : (ordS xs).length = xs.length := by rw [(ordS_perm xs).length_eq, upto_length]
theorem ordS_mem {xs : List Sb} {x : Int} (h : x ∈ ordS xs) : 0 ≤ x ∧ x < xs.length := (upto_mem _ x).1 ((ordS_perm xs).mem_iff.1 h)
theorem ordS_at (xs : List Sb) {i : Nat} (hi : i < xs.length) : ∃ m : Nat, (ordS xs).getD i 0 = m ∧ m < xs.length := by
  have h : (ordS xs).getD i 0 ∈ ordS xs := by
    rw [List.getD_eq_getElem?_getD, List.getElem?_eq_getElem (by rw [ordS_length]; exact hi)]
    exact List.getElem_mem _
  have := ordS_mem h
  exact ⟨((ordS xs).getD i 0).toNat, by omega, by omega⟩
theorem upto_nodup (n : Nat) : (upto n).Nodup := (upto_pw n).imp fun h => by omega
theorem ordS_nodup (xs : List Sb) : (ordS xs).Nodup := (ordS_perm xs).nodup_iff.2 (upto_nodup _)
/-- A window's spread: its numerator and denominator. -/
def winG (xs : List Sb) (i : Nat) : Int := gapN (rdQ xs ((ordS xs).getD i 0).toNat) (rdQ xs ((ordS xs).getD (i + xs.length / 2) 0).toNat)
def winD (xs : List Sb) (i : Nat) : Int := (rdQ xs ((ordS xs).getD i 0).toNat).raw * (rdQ xs ((ordS xs).getD (i + xs.length / 2) 0).toNat).raw
/-- The first of the narrowest windows up to number m. -/
def winB (g d : Nat → Int) : Nat → Nat
  | 0 => 0
  | m + 1 => if g (m + 1) * d (winB g d m) < g (winB g d m) * d (m + 1) then m + 1 else winB g d m
theorem winB_le (g d : Nat → Int) : ∀ m, winB g d m ≤ m
  | 0 => Nat.le_refl _
  | m + 1 => by
    unfold winB
    split
    · exact Nat.le_refl _
    · have := winB_le g d m; omega
def winS (xs : List Sb) : Nat := winB (winG xs) (winD xs) (xs.length / 2 - 1)
/-- Do the subsamples of the narrowest window agree? -/
def goodS (xs : List Sb) (tol : Int) : Prop := winG xs (winS xs) * 10000 ≤ tol * winD xs (winS xs)
instance (xs : List Sb) (tol : Int) : Decidable (goodS xs tol) := by unfold goodS; infer_instance
def segS (xs : List Sb) : List Int := ((ordS xs).drop (winS xs)).take (xs.length / 2 + 1)
def usedS (xs : List Sb) : List Int := (upto xs.length).filter fun x => decide (x ∈ segS xs)
theorem segS_sub (xs : List Sb) {x : Int} (h : x ∈ segS xs) : x ∈ ordS xs := List.mem_of_mem_drop (List.mem_of_mem_take h)
theorem segS_nodup (xs : List Sb) : (segS xs).Nodup := ((ordS_nodup xs).sublist (List.drop_sublist _ _)).sublist (List.take_sublist _ _)
theorem segS_length {xs : List Sb} (h0 : 0 < xs.length) (h : xs.length % 2 = 0) : (segS xs).length = xs.length / 2 + 1 := by
  have := winB_le (winG xs) (winD xs) (xs.length / 2 - 1)
  unfold segS winS
  rw [List.length_take, List.length_drop, ordS_length]
  omega
theorem usedS_pw (xs : List Sb) : (usedS xs).Pairwise (· < ·) := (upto_pw _).filter _
theorem cmp_law : CmpLaw cmpI where
  anti := fun x y => by unfold cmpI; (repeat' split) <;> omega
  trans := fun x y z => by unfold cmpI; (repeat' split) <;> omega
theorem ahd_cmp {x y : Int} : ahd cmpI x y ↔ x < y := by unfold ahd cmpI; (repeat' split) <;> omega
theorem pw_one {l m : List Int} (hl : l.Pairwise (· < ·)) (hm : m.Pairwise (· < ·)) (hp : m.Perm l) : m = l := by
  rw [srt_one cmp_law hl (hm.imp fun h => ahd_cmp.2 h) hp]
  exact (srt_one cmp_law hl (hl.imp fun h => ahd_cmp.2 h) (List.Perm.refl _)).symm
theorem usedS_perm (xs : List Sb) : (usedS xs).Perm (segS xs) := by
  refine (List.perm_ext_iff_of_nodup ((upto_nodup _).filter _) (segS_nodup xs)).2 fun x => ?_
  rw [List.mem_filter, decide_eq_true_eq]
  exact ⟨fun h => h.2, fun h => ⟨(upto_mem _ x).2 (ordS_mem (segS_sub xs h)), h⟩⟩
theorem segS_sorted (xs : List Sb) : (segS xs).mergeSort (fun x y => decide (x ≤ y)) = usedS xs := by
  have h1 := List.mergeSort_perm (segS xs) (fun x y => decide (x ≤ y))
  have h2 : ((segS xs).mergeSort (fun x y => decide (x ≤ y))).Pairwise (fun x y => decide (x ≤ y) = true) := List.pairwise_mergeSort (fun a b c => by simp; omega) (fun a b => by simp; omega) _
  have h3 : ((segS xs).mergeSort (fun x y => decide (x ≤ y))).Nodup := h1.nodup_iff.2 (segS_nodup xs)
  have h4 : ((segS xs).mergeSort (fun x y => decide (x ≤ y))).Pairwise (· < ·) := by
    refine (List.pairwise_and_iff.2 ⟨h2, h3⟩).imp fun {a b} h => ?_
    have := of_decide_eq_true h.1
    have := h.2
    omega
  exact pw_one (usedS_pw xs) h4 (h1.trans (usedS_perm xs).symm)
end Go.Proofs.Ythkfahkkcjagdaa
namespace Go.Proofs.Ythkfahkkcjagdaa
open Go.RowKit Go.Proofs.YthkfahkkcjagdaaW.PrintWords Go.Proofs.YthkfahkkcjagdaaW.PrintMore Go.Proofs.YthkfahkkcjagdaaW.PrintLast

section
open Go.Sort Go.Lib
theorem own_put {w : World} {base g n cap q : Nat} {xs : List Int} (h : w.ownsRow base 3 1 (.slice (some ⟨g, 0, none⟩) n cap) n (ints xs)) (ys : List Int) (hy : ys.length = n) (m : Nat) (hm : m ≤ n) :
    (putRow (Value.int .i64) (Sort.ahead w q) g 0 ys.toArray).ownsRow base 3 1 (.slice (some ⟨g, 0, none⟩) m cap) m (ints (ys.take m)) ∧ w.grownBy (putRow (Value.int .i64) (Sort.ahead w q) g 0 ys.toArray) (some g) := by
  obtain ⟨hl, h2⟩ := h
  rcases h2 with ⟨e, _⟩ | ⟨g', cap', cur, e, hb, hh, hnc, hcm, hcs, htk⟩
  · cases e
  cases e
  have hblk : (putRow (Value.int .i64) (Sort.ahead w q) g 0 ys.toArray).heap[g]? = some (.cells (putCells (Value.int .i64) 0 ys.toArray cur) 3 (0, 0)) := by
    unfold putRow mapBlock
    rw [Array.getElem?_modify, if_pos rfl]
    rw [show (Sort.ahead w q).heap = w.heap from rfl, hh]
    rfl
  refine ⟨⟨by rw [ints_length, List.length_take]; omega, .inr ⟨g, cap, _, rfl, hb, hblk, by omega, hcm, by unfold putCells; simpa using hcs, ?_⟩⟩, ⟨rfl, rfl, rfl, by simp, fun k hk hne => ?_⟩⟩
  · refine List.ext_getElem? (fun j => ?_)
    rw [List.getElem?_take, Nat.mul_one]
    unfold ints
    rw [List.getElem?_map, List.getElem?_take]
    by_cases hj : j < m
    · rw [if_pos hj, if_pos hj]
      unfold putCells
      rw [Array.getElem?_toList, Array.getElem?_mapIdx, Array.getElem?_eq_getElem (by omega)]
      simp only [Option.map_some]
      rw [if_pos (by simp; omega), List.getElem?_eq_getElem (by omega)]
      simp only [Option.map_some, Nat.sub_zero]
      rw [getElem!_pos _ j (by simp; omega)]
      simp
    · rw [if_neg hj, if_neg hj]; rfl
  · unfold putRow mapBlock
    rw [Array.getElem?_modify, if_neg (fun e => hne (by rw [e]))]
    rfl
theorem own_grow {w : World} {base n : Nat} {v : Value} {xs : List Value} (h : w.ownsRow base 3 1 v n xs) (os : Array Obj) : (grow w os).ownsRow base 3 1 v n xs := by
  obtain ⟨hl, h2⟩ := h
  refine ⟨hl, ?_⟩
  rcases h2 with h | ⟨g, cap, cur, e, hb, hh, r⟩
  · exact .inl h
  · refine .inr ⟨g, cap, cur, e, hb, ?_, r⟩
    unfold grow
    have := (Array.getElem?_eq_some_iff.1 hh).1
    rw [Array.getElem?_append_left this]
    exact hh
theorem own_holds {w : World} {base g n cap : Nat} {xs : List Int} (h : w.ownsRow base 3 1 (.slice (some ⟨g, 0, none⟩) n cap) n (ints xs)) : Holds (Value.int .i64) w g 0 xs.toArray ∧ xs.length = n ∧ n ≤ cap ∧ cap ≤ maxLen ∧ g < w.heap.size := by
  obtain ⟨hl, h2⟩ := h
  rcases h2 with ⟨e, _⟩ | ⟨g', cap', cur, e, hb, hh, hnc, hcm, hcs, htk⟩
  · cases e
  cases e
  rw [ints_length] at hl
  refine ⟨fun j hj => ?_, by omega, hnc, hcm, (Array.getElem?_eq_some_iff.1 hh).1⟩
  have hj' : j < xs.length := by simpa using hj
  have e1 : cur[j]? = some (.int .i64 (xs.getD j 0)) := by
    have := congrArg (fun l => l[j]?) htk
    rw [List.getElem?_take, if_pos (by omega), Array.getElem?_toList, ints_get xs hj'] at this
    exact this
  rw [Nat.zero_add]
  refine ⟨?_, ?_⟩
  · rw [getElem!_pos _ j hj]
    simp only [World.cell?, hh, e1, List.getElem_toArray, List.getD_eq_getElem?_getD, List.getElem?_eq_getElem hj', Option.getD_some]
    rfl
  · simp [World.frozen?, hh]
abbrev RI (w : World) (base : Nat) (ok : Nat → Prop) (v : Value) (xs : List Int) : Prop := (Kd.int .i64).R 3 w base ok v xs
theorem RI_own {w : World} {base : Nat} {ok : Nat → Prop} {v : Value} {xs : List Int} (h : RI w base ok v xs) : w.ownsRow base 3 1 v xs.length (ints xs) := Kd.own_of_R h
theorem RI_of {w : World} {base : Nat} {ok : Nat → Prop} {v : Value} {xs : List Int} (h : w.ownsRow base 3 1 v xs.length (ints xs)) (hok : ∀ k, v.ownBlock = some k → ok k) : RI w base ok v xs := Kd.R_of_own h hok
theorem sort_any {w : World} {base : Nat} {ok : Nat → Prop} {v : Value} {xs : List Int} (h : RI w base ok v xs) (hx : xs.length ≤ 100000) :
    Calls Try.prog 123 #[v] w fun e w' => e = .returned (.tuple #[]) ∧ RI w' base ok v (xs.mergeSort fun x y => decide (x ≤ y)) ∧ w.grownBy w' v.ownBlock := by
  have ho := RI_own h
  have hok := h.1
  obtain ⟨hl, h2⟩ := id ho
  have hml : (xs.mergeSort fun x y => decide (x ≤ y)).length = xs.length := (List.mergeSort_perm _ _).length_eq
  rcases h2 with ⟨rfl, e0⟩ | ⟨g, cap, cur, rfl, _⟩
  · refine (Try.slices_Sort_int_none none 0 w).mono ?_
    rintro e w' ⟨rfl, rfl⟩
    have hx0 : xs = [] := List.eq_nil_of_length_eq_zero e0
    subst hx0
    exact ⟨rfl, by rw [List.mergeSort_nil]; exact h, ⟨rfl, rfl, rfl, Nat.le_refl _, fun _ _ _ => rfl⟩⟩
  obtain ⟨hH, _, hnc, hcm, hg⟩ := own_holds ho
  refine (Try.slices_Sort_int g 0 cap xs w hH hg (by omega)).mono ?_
  rintro e w' ⟨rfl, q, os, rfl⟩
  have hp := own_put (q := q) ho (xs.mergeSort fun x y => decide (x ≤ y)) hml xs.length (Nat.le_refl _)
  rw [List.take_of_length_le (by omega)] at hp
  refine ⟨rfl, RI_of ?_ hok, ?_⟩
  · rw [hml]; exact own_grow hp.1 os
  · obtain ⟨a, b, c, d, e⟩ := hp.2
    refine ⟨a, b, c, by rw [size_grow]; omega, fun k hk hne => ?_⟩
    have := e k hk hne
    rw [← this]
    unfold grow
    exact Array.getElem?_append_left (by omega)
end
theorem CQ_kp {S : Nat → Prop} {w w1 : World} {A : Option Addr} {n : Nat} {xs : List Sb} (h : kQ.C w A n xs) (k : Kp S w w1) (hn : 0 < n → ∀ ad, A = some ad → ad.block < w.heap.size ∧ ¬ S ad.block) : kQ.C w1 A n xs := by
  obtain ⟨h1, h2, h3⟩ := h
  refine ⟨h1, h2, fun hp => ?_⟩
  obtain ⟨ad, e, h4⟩ := h3 hp
  refine ⟨ad, e, fun j p hj => ?_⟩
  obtain ⟨c, h5, h6, h7⟩ := h4 j p hj
  refine ⟨c, h5, h6, fun i u hi => ?_⟩
  refine (World.cell?_of_block (w := w) ?_).trans (h7 i u hi)
  rw [add_block]
  exact k.block _ (hn hp ad e).1 (hn hp ad e).2
theorem CQ_lt {w : World} {A : Option Addr} {n : Nat} {xs : List Sb} (h : kQ.C w A n xs) : 0 < n → ∀ ad, A = some ad → ad.block < w.heap.size := by
  intro hp ad e
  obtain ⟨ad2, e2, hc, _⟩ := at_Q h 0 (by omega)
  rw [e] at e2
  cases e2
  have := World.block_lt_of_cell? w _ hc
  rwa [add_block] at this
theorem enter121 (args : Array Value) (W : World) : (callFunc 121 args).run Try.prog W = .ok (.enter 121 args) W := by kernel_rfl
/-- What the comparison looks at. -/
def TI (bt bc N : Nat) (A : Option Addr) (c : Nat) (xs : List Sb) (tol st : Int) (vu : Value) (W : World) : Prop := N ≤ W.heap.size ∧ TR W bt A c xs tol st vu ∧ Blk W bc [.pointer (some ⟨bt, 0, none⟩)] 77
theorem TI.kp {bt bc N : Nat} {A : Option Addr} {c : Nat} {xs : List Sb} {tol st : Int} {vu : Value} {W W' : World} {g : Nat} (h : TI bt bc N A c xs tol st vu W) (k : Kp (fun i => i = g) W W') (hA : 0 < xs.length → ∀ ad, A = some ad → ad.block < N) (h1 : bt < N) (h2 : bc < N) (hg : N ≤ g) : TI bt bc N A c xs tol st vu W' :=
  ⟨Nat.le_trans h.1 k.size, ⟨h.2.1.b.kp k (by omega), CQ_kp h.2.1.s k fun hp ad e => ⟨Nat.lt_of_lt_of_le (hA hp ad e) h.1, fun h' => by have := hA hp ad e; omega⟩⟩, h.2.2.kp k (by omega)⟩
theorem cmpC {bt bc N g : Nat} {A : Option Addr} {c : Nat} {xs : List Sb} {tol st : Int} {vu : Value} (hok : ∀ s ∈ xs, SbOK s) (hA : 0 < xs.length → ∀ ad, A = some ad → ad.block < N) (h1 : bt < N) (h2 : bc < N) (hg : N ≤ g) : CmpC 121 bc (TI bt bc N A c xs tol st vu) (cfS xs) (fun x => 0 ≤ x ∧ x < xs.length) g where
  en := enter121
  calls := fun W x y hI hx hy => by
    have h := cmpS_any W rfl hI.2.1 hI.2.2 hok x.toNat y.toNat (by omega) (by omega)
    rw [show ((x.toNat : Nat) : Int) = x by omega, show ((y.toNat : Nat) : Int) = y by omega] at h
    exact h
  keep := fun W W' hI k => hI.kp k hA h1 h2 hg
end Go.Proofs.Ythkfahkkcjagdaa
namespace Go.Proofs.Ythkfahkkcjagdaa
open Go.RowKit Go.Proofs.YthkfahkkcjagdaaW.PrintWords Go.Proofs.YthkfahkkcjagdaaW.PrintMore Go.Proofs.YthkfahkkcjagdaaW.PrintLast
set_option linter.unusedSimpArgs false

def DecPost (w : World) (bt : Nat) (A : Option Addr) (c : Nat) (xs : List Sb) (tol st : Int) (vu : Value) (e : Ending) (w' : World) : Prop :=
  e = .returned (.tuple #[]) ∧ Kp (fun k => k = bt) w w' ∧ ∃ (st' : Int) (vu' : Value), Blk w' bt [.bool true, .int .i64 tol, .int .i64 st', .slice A xs.length c, vu'] 80 ∧
    ((goodS xs tol ∧ st' = 1 ∧ RI w' w.heap.size (fun _ => True) vu' (usedS xs)) ∨ (¬ goodS xs tol ∧ st' = (if xs.length = 8 then 2 else st) ∧ vu' = vu))
/-- The narrowest window so far. -/
def WinR (g d : Nat → Int) (a : Nat) (z x y : Int) : Prop := (a = 0 ∧ z = -1 ∧ x = 0 ∧ y = 0) ∨ (0 < a ∧ z = winB g d (a - 1) ∧ x = g (winB g d (a - 1)) ∧ y = d (winB g d (a - 1)))
theorem WinR.first {g d : Nat → Int} {z x y : Int} (_ : WinR g d 0 z x y) : WinR g d 1 0 (g 0) (d 0) := .inr ⟨by omega, rfl, rfl, rfl⟩
theorem WinR.less {g d : Nat → Int} {a : Nat} {z x y : Int} (h : WinR g d a z x y) (h0 : 0 < a) (hl : g a * y < x * d a) : WinR g d (a + 1) a (g a) (d a) := by
  rcases h with ⟨h1, _⟩ | ⟨h1, h2, h3, h4⟩
  · omega
  · obtain ⟨b, rfl⟩ : ∃ b, a = b + 1 := ⟨a - 1, by omega⟩
    rw [Nat.add_sub_cancel] at h2 h3 h4
    subst h3 h4
    have e : winB g d (b + 1) = b + 1 := by rw [winB, if_pos hl]
    exact .inr ⟨by omega, by rw [Nat.add_sub_cancel, e], by rw [Nat.add_sub_cancel, e], by rw [Nat.add_sub_cancel, e]⟩
theorem WinR.keep {g d : Nat → Int} {a : Nat} {z x y : Int} (h : WinR g d a z x y) (h0 : 0 < a) (hl : ¬ g a * y < x * d a) : WinR g d (a + 1) z x y := by
  rcases h with ⟨h1, _⟩ | ⟨h1, h2, h3, h4⟩
  · omega
  · obtain ⟨b, rfl⟩ : ∃ b, a = b + 1 := ⟨a - 1, by omega⟩
    rw [Nat.add_sub_cancel] at h2 h3 h4
    have e : winB g d (b + 1) = winB g d b := by rw [winB, if_neg (by rw [← h3, ← h4]; exact hl)]
    exact .inr ⟨by omega, by rw [Nat.add_sub_cancel, e, h2], by rw [Nat.add_sub_cancel, e, h3], by rw [Nat.add_sub_cancel, e, h4]⟩
theorem mulS_bd {a b : Int} (h1 : -100000000 ≤ a) (h2 : a ≤ 100000000) (h3 : 0 ≤ b) (h4 : b ≤ 100000000) : -10000000000000000 ≤ a * b ∧ a * b ≤ 10000000000000000 := by
  have e1 := Int.mul_le_mul_of_nonneg_right h2 h3
  have e2 := Int.mul_le_mul_of_nonneg_right h1 h3
  omega
theorem mulT_bd {a b : Int} (h1 : 0 ≤ a) (h2 : a ≤ 10000) (h3 : 0 ≤ b) (h4 : b ≤ 100000000) : 0 ≤ a * b ∧ a * b ≤ 1000000000000 := by
  refine ⟨Int.mul_nonneg h1 h3, ?_⟩
  have e1 := Int.mul_le_mul_of_nonneg_right h2 h3
  omega
theorem Kp.grownF {S : Nat → Prop} {w w1 w2 : World} {g : Nat} (h : Kp S w w1) (hg : w1.grownBy w2 (some g)) (hb : w.heap.size ≤ g) : Kp S w w2 :=
  ⟨hg.os.trans h.os, hg.tape.trans h.tape, hg.output.trans h.output, Nat.le_trans h.size hg.size, fun i hi hn => (hg.block i (Nat.lt_of_lt_of_le hi h.size) (by simp; omega)).trans (h.block i hi hn)⟩
set_option maxHeartbeats 16000000 in
set_option maxRecDepth 100000 in
theorem decide_any (w : World) {bt : Nat} {A : Option Addr} {c : Nat} {xs : List Sb} {tol st : Int} {vu : Value} (n m : Nat) (hn : xs.length = n) (hm : n = 2 * m) (h1 : 1 ≤ m) (h4 : m ≤ 4) (h : TR w bt A c xs tol st vu) (hok : ∀ s ∈ xs, SbOK s) (ht : 0 ≤ tol ∧ tol ≤ 10000) :
    Calls Try.prog 91 #[.pointer (some ⟨bt, 0, none⟩)] w (DecPost w bt A c xs tol st vu) := by
  have hA := CQ_lt h.s
  have b1 := below_alloc (Below.refl w.heap.size w) (.cells #[.pointer (some ⟨bt, 0, none⟩)] 77)
  have q1 := Blk.new w [.pointer (some ⟨bt, 0, none⟩)] 77
  have hbt := h.b.lt
  have H1 := Aside0.mk (And.intro b1 (And.intro q1 (h.below b1)))
  have mk1 := print_make (P := Try.prog) 35 3 .i64 8 Try.underlying35 info3 (by decide) n (by omega)
  simp only [made_ints] at mk1
  have HOK := Aside0.mk (And.intro hok (And.intro hA (And.intro hn hm)))
  obtain ⟨ad, hadA⟩ : ∃ ad, A = some ad := by
    obtain ⟨ad, e, _⟩ := at_Q h.s 0 (by omega)
    exact ⟨ad, e⟩
  subst hadA
  have s0 := q1.at_ (i := 0) rfl
  have s1 := (h.b.below b1).at_ (i := 3) rfl
  rw [hn] at s1
  obtain ⟨hto1, hto2⟩ := ht
  have hm1 : n ≤ 2 * m := by omega
  have hm2 : 2 * m ≤ n := by omega
  clear h hok b1 q1 hA hn hm
  go_enter Try.func91, Try.ntmps91
  go_upto_region 2 with fail
  obtain ⟨bc, hbc⟩ : ∃ z, z = w.heap.size := ⟨_, rfl⟩
  obtain ⟨w1, hw1⟩ : ∃ z, z = w.alloc (.cells #[.pointer (some ⟨bt, 0, none⟩)] 77) := ⟨_, rfl⟩
  have HB1 : Aside0 (Below w.heap.size w w1 ∧ bc = w.heap.size) := ⟨by rw [hw1]; exact H1.out.1, hbc⟩
  have HT1 : Aside0 (TI bt bc (w.heap.size + 1) (some ad) c xs tol st vu w1) := ⟨by rw [hw1]; simp, by rw [hw1]; exact H1.out.2.2, by rw [hw1, hbc]; exact H1.out.2.1⟩
  rw [← hw1, ← hbc]
  have ho1 : w1.heap.size = bc + 1 := by rw [hw1, hbc]; simp
  clear s0 s1 H1
  have hbtc : bt < bc := by rw [hbc]; exact hbt
  have HO1 := Aside0.mk ho1
  clear hbt hbc hw1 ho1
  go_upto_region 3 with fail
  clear mk1
  have q2 := Blk.new w1 (ints (List.replicate n 0)) 3
  have b2 := below_alloc (Below.refl w1.heap.size w1) (.cells (ints (List.replicate n 0)).toArray 3)
  obtain ⟨o, ho⟩ : ∃ z, z = w1.heap.size := ⟨_, rfl⟩
  have HT2 : Aside0 (TI bt bc (w.heap.size + 1) (some ad) c xs tol st vu (w1.alloc (.cells (ints (List.replicate n 0)).toArray 3))) := ⟨Nat.le_trans HT1.out.1 b2.size, HT1.out.2.1.below b2, HT1.out.2.2.below b2⟩
  have HB2 := Aside0.mk (below_step HB1.out.1 b2)
  have hob : bc < o := by have := HO1.out; omega
  rw [← ho] at q2 ⊢
  have HO := Aside0.mk ho
  generalize w1.alloc (.cells (ints (List.replicate n 0)).toArray 3) = w2 at q2 HT2 HB2 ⊢
  have HQ2 := Aside0.mk q2
  clear q2 b2 ho
  go_wp2_with fail
  go_loopw [4, 21] (fun _ v wr => ∃ i : Nat, v = .int .i64 i ∧ i ≤ n ∧ Aside0 (Kp (fun k => k = o) w2 wr ∧ Blk wr o (ints (upto i ++ List.replicate (n - i) 0)) 3)) (fun _ v _ => n - (intOf v).toNat)
  case atStart => exact ⟨0, rfl, by omega, ⟨Kp.refl _ _, by simpa [upto] using HQ2.out⟩⟩
  case round =>
    obtain ⟨i, rfl, hi, HJ⟩ := hrel
    by_cases hlt : i < n
    · have hlti : (i : Int) < n := by omega
      have hil : i < (upto i ++ List.replicate (n - i) 0).length := by simp [upto_length]; omega
      have f1 := HJ.out.2.at_ (ints_get _ hil)
      have f2 := HJ.out.2.free i
      clear hil
      go_wp2_with fail
      go_roundw
      case rel =>
        refine ⟨i + 1, by go_num, by omega, ⟨HJ.out.1.setCell (fun _ => rfl) _, ?_⟩⟩
        have := HJ.out.2.set i (.int .i64 i)
        rw [ints_set, upto_set _ _ hlt] at this
        exact this
      case measure => simp [intOf]; omega
    · have hlti : ¬ (i : Int) < n := by omega
      have hu : Blk wr o (ints (upto xs.length)) 3 := by
        have := HJ.out.2
        rw [show i = n by omega, Nat.sub_self] at this
        rw [HOK.out.2.2.1]
        simpa using this
      have hAN : 0 < xs.length → ∀ ad', some ad = some ad' → ad'.block < w.heap.size + 1 := fun hp ad' e => by have := HOK.out.2.1 hp ad' e; omega
      have hsz := HB1.out.2
      have hti := HT2.out.kp HJ.out.1 hAN (by omega) (by omega) (by omega)
      have hsrt := sortsFew (k := 121) (b := bc) (g := o) (I := TI bt bc (w.heap.size + 1) (some ad) c xs tol st vu) (cf := cfS xs) (dom := fun x => 0 ≤ x ∧ x < xs.length) (upto xs.length) (by rw [upto_length, HOK.out.2.2.1]; omega) wr (fun x hx => (upto_mem _ x).1 hx) hu hti (cmpC HOK.out.1 hAN (by omega) (by omega) (by omega))
      rw [upto_length, HOK.out.2.2.1] at hsrt
      have HSRT := Aside0.mk hsrt
      have HTI := Aside0.mk (And.intro hti (And.intro HJ.out.1 hAN))
      clear hsrt hu hti hAN hsz
      have hen := enter121
      go_upto_region 9 with ((with_reducible refine HSRT.out.mono ?_); rintro e8 w8 ⟨rfl, hk8, hg8⟩; have H8 := Aside0.mk (And.intro hk8 hg8); clear hk8 hg8)
      have HT8 := Aside0.mk (HTI.out.1.kp H8.out.1 HTI.out.2.2 (by have := HB1.out.2; omega) (by have := HB1.out.2; omega) (by have := HB1.out.2; omega))
      have HG8 : Aside0 (Blk w8 o (ints (ordS xs)) 3) := ⟨by have := H8.out.2; rw [← HOK.out.2.2.1] at this; exact this⟩
      have HK8 : Aside0 (Below w.heap.size w w8) := ⟨(((Kp.of_below HB2.out : Kp (fun k => k = o) w w2).step HTI.out.2.1).step H8.out.1).below_of (fun i hi => by have := HB1.out.2; omega)⟩
      have hdv : (n : Int) / 2 = m := by have := HOK.out.2.2.2; omega
      have hdt : Int.tdiv (n : Int) 2 = m := by rw [Int.tdiv_eq_ediv_of_nonneg (by omega)]; exact hdv
      clear hen
      go_upto_region 10 with fail
      go_wp2_with fail
      go_loopw [6, 7, 8, 9, 10, 11] (fun v6 v7 v8 v9 _ _ wr => ∃ (a : Nat) (z x y : Int), v6 = .int .i64 z ∧ v7 = .int .i64 x ∧ v8 = .int .i64 y ∧ v9 = .int .i64 a ∧ a ≤ m ∧ (-1 ≤ z ∧ z ≤ 8) ∧ (-100000000 ≤ x ∧ x ≤ 100000000) ∧ (0 ≤ y ∧ y ≤ 100000000) ∧ Aside0 (WinR (winG xs) (winD xs) a z x y) ∧ Aside0 (Below w8.heap.size w8 wr)) (fun _ _ _ v9 _ _ _ => m - (intOf v9).toNat)
      case atStart => exact ⟨0, -1, 0, 0, rfl, rfl, rfl, rfl, by omega, by omega, by omega, by omega, ⟨.inl ⟨rfl, rfl, rfl, rfl⟩⟩, ⟨Below.refl _ _⟩⟩
      case round =>
        obtain ⟨a, z, x, y, rfl, rfl, rfl, rfl, ha, ⟨hz1, hz2⟩, ⟨hx1, hx2⟩, ⟨hy1, hy2⟩, HWN, HW⟩ := hrel
        by_cases hlt2 : a < m
        · have hlti2 : (a : Int) + ((m : Int) + 1) ≤ n := by omega
          obtain ⟨P, hP, hPn⟩ := ordS_at xs (i := a) (by rw [HOK.out.2.2.1]; omega)
          obtain ⟨Q, hQ, hQn⟩ := ordS_at xs (i := a + m) (by rw [HOK.out.2.2.1]; omega)
          have hmm : xs.length / 2 = m := by rw [HOK.out.2.2.1]; have := HOK.out.2.2.2; omega
          have hG : winG xs a = gapN (rdQ xs P) (rdQ xs Q) := by unfold winG; rw [hmm, hP, hQ]; rfl
          have hD : winD xs a = (rdQ xs P).raw * (rdQ xs Q).raw := by unfold winD; rw [hmm, hP, hQ]; rfl
          have HS0 := Aside0.mk (fun (W : World) (hW : Below w8.heap.size w8 W) => (by
            have hT := (HT8.out.2.1).below hW
            obtain ⟨ad1, e1, c0, c1, c2, c3, c4⟩ := at_Q hT.s P hPn
            cases e1
            obtain ⟨ad1, e1, d0, d1, d2, d3, d4⟩ := at_Q hT.s Q hQn
            cases e1
            have o1 := (HG8.out.below hW).at_ (ints_get (ordS xs) (i := a) (by rw [ordS_length, HOK.out.2.2.1]; omega))
            have o2 := (HG8.out.below hW).at_ (ints_get (ordS xs) (i := a + m) (by rw [ordS_length, HOK.out.2.2.1]; omega))
            rw [hP] at o1
            rw [hQ] at o2
            have t3 := hT.b.at_ (i := 3) rfl
            rw [HOK.out.2.2.1] at t3
            exact ⟨⟨hW⟩, (HT8.out.2.2.below hW).at_ (i := 0) rfl, t3, o1, o2, c0, c1, c2, c3, c4, d0, d1, d2, d3, d4⟩ : Aside0 (Below w8.heap.size w8 W) ∧ W.cell? ⟨bc, 0, none⟩ = some (.pointer (some ⟨bt, 0, none⟩)) ∧ W.cell? ⟨bt, 3, none⟩ = some (.slice (some ad) n c) ∧ W.cell? ⟨o, a, none⟩ = some (.int .i64 P) ∧ W.cell? ⟨o, a + m, none⟩ = some (.int .i64 Q) ∧ W.cell? (ad.add (P * 5)) = some (.int .i64 (rdQ xs P).raw) ∧ W.cell? ⟨(ad.add (P * 5)).block, (ad.add (P * 5)).off + 1, none⟩ = some (.int .i64 (rdQ xs P).dry) ∧ W.cell? ⟨(ad.add (P * 5)).block, (ad.add (P * 5)).off + 2, none⟩ = some (.int .i64 (rdQ xs P).ash) ∧ W.cell? ⟨(ad.add (P * 5)).block, (ad.add (P * 5)).off + 3, none⟩ = some (.int .i64 (rdQ xs P).gre) ∧ W.cell? ⟨(ad.add (P * 5)).block, (ad.add (P * 5)).off + 4, none⟩ = some (.int .i64 (rdQ xs P).veg) ∧ W.cell? (ad.add (Q * 5)) = some (.int .i64 (rdQ xs Q).raw) ∧ W.cell? ⟨(ad.add (Q * 5)).block, (ad.add (Q * 5)).off + 1, none⟩ = some (.int .i64 (rdQ xs Q).dry) ∧ W.cell? ⟨(ad.add (Q * 5)).block, (ad.add (Q * 5)).off + 2, none⟩ = some (.int .i64 (rdQ xs Q).ash) ∧ W.cell? ⟨(ad.add (Q * 5)).block, (ad.add (Q * 5)).off + 3, none⟩ = some (.int .i64 (rdQ xs Q).gre) ∧ W.cell? ⟨(ad.add (Q * 5)).block, (ad.add (Q * 5)).off + 4, none⟩ = some (.int .i64 (rdQ xs Q).veg)))
          have HGP := Aside0.mk (fun W => gap_any W (rdQ_ok HOK.out.1 P) (rdQ_ok HOK.out.1 Q))
          have hbd := gapN_bd (rdQ_ok HOK.out.1 P) (rdQ_ok HOK.out.1 Q)
          have hbd2 := raws_bd (rdQ_ok HOK.out.1 P) (rdQ_ok HOK.out.1 Q)
          obtain ⟨G, hGG⟩ : ∃ z, z = gapN (rdQ xs P) (rdQ xs Q) := ⟨_, rfl⟩
          obtain ⟨D, hDD⟩ : ∃ z, z = (rdQ xs P).raw * (rdQ xs Q).raw := ⟨_, rfl⟩
          rw [← hGG] at hG hbd HGP
          rw [← hDD] at hD hbd2 HGP
          have HGD := Aside0.mk (And.intro hG hD)
          rw [HOK.out.2.2.1] at hPn hQn
          clear hGG hDD hG hD hP hQ hmm
          generalize rdQ xs P = PS at HS0 HGP
          generalize rdQ xs Q = QS at HS0 HGP
          obtain ⟨pr, pd, pa, pg, pv⟩ := PS
          obtain ⟨qr, qd, qa, qg, qv⟩ := QS
          dsimp only at HS0 HGP
          obtain ⟨hG1, hG2⟩ := hbd
          obtain ⟨hD1, hD2⟩ := hbd2
          have hPi : (P : Int) < n := by omega
          have hQi : (Q : Int) < n := by omega
          have k1 : IntKind.i64.wrap ((a : Int) + ((m : Int) + 1)) = (a : Int) + ((m : Int) + 1) := IntWalk.i64_in _ (by omega)
          have k2 : IntKind.i64.wrap ((a : Int) + ((m : Int) + 1) - 1) = (a : Int) + (m : Int) := by rw [IntWalk.i64_in _ (by omega)]; omega
          have k3 : (0 : Int) ≤ (a : Int) + (m : Int) := by omega
          have k4 : (a : Int) + (m : Int) < n := by omega
          have k5 : ((a : Int) + (m : Int)).toNat = a + m := by omega
          have k6 : (a : Int) < n := by omega
          have k7 : a < n := by omega
          have k8 : a + m < n := by omega
          go_upto_region 15 with fail
          go_region_held3 (fun W => Aside0 (Below w8.heap.size w8 W) ∧ W.cell? ⟨bc, 0, none⟩ = some (.pointer (some ⟨bt, 0, none⟩)) ∧ W.cell? ⟨bt, 3, none⟩ = some (.slice (some ad) n c) ∧ W.cell? ⟨o, a, none⟩ = some (.int .i64 P) ∧ W.cell? ⟨o, a + m, none⟩ = some (.int .i64 Q) ∧ W.cell? (ad.add (P * 5)) = some (.int .i64 pr) ∧ W.cell? ⟨(ad.add (P * 5)).block, (ad.add (P * 5)).off + 1, none⟩ = some (.int .i64 pd) ∧ W.cell? ⟨(ad.add (P * 5)).block, (ad.add (P * 5)).off + 2, none⟩ = some (.int .i64 pa) ∧ W.cell? ⟨(ad.add (P * 5)).block, (ad.add (P * 5)).off + 3, none⟩ = some (.int .i64 pg) ∧ W.cell? ⟨(ad.add (P * 5)).block, (ad.add (P * 5)).off + 4, none⟩ = some (.int .i64 pv) ∧ W.cell? (ad.add (Q * 5)) = some (.int .i64 qr) ∧ W.cell? ⟨(ad.add (Q * 5)).block, (ad.add (Q * 5)).off + 1, none⟩ = some (.int .i64 qd) ∧ W.cell? ⟨(ad.add (Q * 5)).block, (ad.add (Q * 5)).off + 2, none⟩ = some (.int .i64 qa) ∧ W.cell? ⟨(ad.add (Q * 5)).block, (ad.add (Q * 5)).off + 3, none⟩ = some (.int .i64 qg) ∧ W.cell? ⟨(ad.add (Q * 5)).block, (ad.add (Q * 5)).off + 4, none⟩ = some (.int .i64 qv))
            ((refine HS0.out _ ?_; repeat (with_reducible (first | exact HW.out | exact HB7.out | refine below_drew ?_))))
            (first | ((with_reducible refine (HGP.out _).mono ?_); rintro e7 w7 ⟨rfl, hb7⟩; have HB7 := Aside0.mk (below_step (hbT (by assumption)) hb7); clear hb7))
          clear k1 k2 k5
          have p1 := mulS_bd hG1 hG2 hy1 hy2
          have p2 := mulS_bd hx1 hx2 (by omega : 0 ≤ D) hD2
          by_cases ha0 : a = 0
          · have hz0 : z = -1 := by
              rcases HWN.out with ⟨_, h, _⟩ | ⟨h, _⟩
              · exact h
              · omega
            have dz : decide (z < 0) = true := decide_eq_true (by omega)
            have HNX : Aside0 (WinR (winG xs) (winD xs) (a + 1) a G D) := ⟨by
              rw [← HGD.out.1, ← HGD.out.2]
              have := HWN.out
              rw [ha0] at this ⊢
              exact this.first⟩
            clear ha0 hz0
            go_wp2_with fail
            go_roundw
            case rel => exact ⟨a + 1, a, G, D, rfl, rfl, rfl, by go_num, by omega, by omega, by omega, by omega, HNX, HB7⟩
            case measure => simp [intOf]; omega
          · have hz0 : 0 ≤ z := by
              rcases HWN.out with ⟨h, _⟩ | ⟨_, h, _⟩
              · omega
              · rw [h]; omega
            have dz : decide (z < 0) = false := decide_eq_false (by omega)
            by_cases hl : G * y < x * D
            · have dl : decide (G * y < x * D) = true := decide_eq_true hl
              have HNX : Aside0 (WinR (winG xs) (winD xs) (a + 1) a G D) := ⟨by
                rw [← HGD.out.1, ← HGD.out.2]
                exact HWN.out.less (by omega) (by rw [HGD.out.1, HGD.out.2]; exact hl)⟩
              clear ha0
              go_wp2_with fail
              go_roundw
              case rel => exact ⟨a + 1, a, G, D, rfl, rfl, rfl, by go_num, by omega, by omega, by omega, by omega, HNX, HB7⟩
              case measure => simp [intOf]; omega
            · have dl : decide (G * y < x * D) = false := decide_eq_false hl
              have HNX : Aside0 (WinR (winG xs) (winD xs) (a + 1) z x y) := ⟨HWN.out.keep (by omega) (by rw [HGD.out.1, HGD.out.2]; exact hl)⟩
              clear ha0
              go_wp2_with fail
              go_roundw
              case rel => exact ⟨a + 1, z, x, y, rfl, rfl, rfl, by go_num, by omega, by omega, by omega, by omega, HNX, HB7⟩
              case measure => simp [intOf]; omega
        · have hlti2 : ¬ (a : Int) + ((m : Int) + 1) ≤ n := by omega
          have hws : z = winS xs ∧ x = winG xs (winS xs) ∧ y = winD xs (winS xs) := by
            have e : winB (winG xs) (winD xs) (a - 1) = winS xs := by
              unfold winS
              rw [HOK.out.2.2.1, show a - 1 = n / 2 - 1 by have := HOK.out.2.2.2; omega]
            rcases HWN.out with ⟨h, _⟩ | ⟨_, h2, h3, h4⟩
            · omega
            · rw [e] at h2 h3 h4
              exact ⟨h2, h3, h4⟩
          have hbm : winS xs < m := by
            have := winB_le (winG xs) (winD xs) (xs.length / 2 - 1)
            unfold winS
            rw [HOK.out.2.2.1] at this ⊢
            have := HOK.out.2.2.2
            omega
          have HGS : Aside0 (goodS xs tol ↔ x * 10000 ≤ tol * y) := ⟨by unfold goodS; rw [hws.2.1, hws.2.2]⟩
          obtain ⟨b, hb⟩ : ∃ b, b = winS xs := ⟨_, rfl⟩
          have hzb := hws.1
          rw [← hb] at hbm hzb
          have HBS := Aside0.mk hb
          have HT9 := Aside0.mk (HT8.out.2.1.below HW.out)
          have HC9 := Aside0.mk (HT8.out.2.2.below HW.out)
          have HG9 := Aside0.mk (HG8.out.below HW.out)
          have HW9 := Aside0.mk (below_step HK8.out HW.out)
          clear hws hb HWN
          subst hzb
          have pt := mulT_bd hto1 hto2 hy1 hy2
          have t0 := HC9.out.at_ (i := 0) rfl
          have t1 := HT9.out.b.at_ (i := 1) rfl
          have t2 := HT9.out.b.at_ (i := 2) rfl
          have tf := HT9.out.b.free 2
          by_cases hg : x * 10000 ≤ tol * y
          · have dg : decide (x * 10000 ≤ tol * y) = true := decide_eq_true hg
            have HGY := Aside0.mk (HGS.out.2 hg)
            go_upto_region 20 with fail
            clear t0 t1 t2 tf
            have hnb := HC9.out.ne_of_type HT9.out.b (by decide)
            have hno := HG9.out.ne_of_type HT9.out.b (by decide)
            have HB10 : Aside0 (Kp (fun k => k = bt) w (wr.setCell ⟨bt, 2, none⟩ (.int .i64 1)) ∧ Blk (wr.setCell ⟨bt, 2, none⟩ (.int .i64 1)) bt [.bool true, .int .i64 tol, .int .i64 1, .slice (some ad) xs.length c, vu] 80 ∧ Blk (wr.setCell ⟨bt, 2, none⟩ (.int .i64 1)) o (ints (ordS xs)) 3 ∧ Blk (wr.setCell ⟨bt, 2, none⟩ (.int .i64 1)) bc [.pointer (some ⟨bt, 0, none⟩)] 77) :=
              ⟨(Kp.of_below HW9.out : Kp (fun k => k = bt) w wr).setCell (p := ⟨bt, 2, none⟩) (fun _ => rfl) _, HT9.out.b.set 2 _, HG9.out.far hno _, HC9.out.far hnb _⟩
            generalize wr.setCell ⟨bt, 2, none⟩ (.int .i64 1) = w10 at HB10 ⊢
            have HC0 := Aside0.mk (fun (W : World) (hW : Below w10.heap.size w10 W) => (show W.cell? ⟨bc, 0, none⟩ = some (.pointer (some ⟨bt, 0, none⟩)) ∧ True from ⟨(HB10.out.2.2.2.below hW).at_ (i := 0) rfl, trivial⟩))
            have HCL := Aside0.mk (fun (W : World) (hW : Below w10.heap.size w10 W) => clone_any W o b (m + 1) (n - b) (ordS xs) (HB10.out.2.2.1.below hW) (by rw [ordS_length, HOK.out.2.2.1]; omega) (by rw [ordS_length, HOK.out.2.2.1]; omega))
            have k1 : IntKind.i64.wrap ((b : Int) + ((m : Int) + 1)) = (b : Int) + ((m : Int) + 1) := IntWalk.i64_in _ (by omega)
            have k2 : (b : Int) ≤ (b : Int) + ((m : Int) + 1) := by omega
            have k3 : (b : Int) + ((m : Int) + 1) ≤ n := by omega
            have k4 : ((b : Int) + ((m : Int) + 1)).toNat = b + (m + 1) := by omega
            have k5 : n ≠ b := by omega
            have k6 : (0 : Int) ≤ (b : Int) + ((m : Int) + 1) := by omega
            refine start_ (n := 11) (S := (fun W => W.cell? ⟨bc, 0, none⟩ = some (.pointer (some ⟨bt, 0, none⟩)) ∧ True)) (ds := [10]) #[false, false, false, false, false, false, false, false, false, false, false] (by kernel_rfl) rfl rfl (HC0.out _ (below_drew (Below.refl _ _))) (fun hHeld => ?_)
            refine take_ (i := 0) (N := some 96) (v := ?_) (a' := ?_) #[true, false, false, false, false, false, false, false, false, false, false] rfl rfl (by kernel_rfl) (fun _ _ _ h => h) (Or.inl ⟨by rfl, ?_⟩) hHeld ?_ ?_
            rotate_left
            · rintro w' ⟨s0, s1⟩
              go_simp
              with_reducible rfl
            rotate_left
            · simp only [Act.put, List.setIfInBounds_toArray, List.set_cons_zero, List.set_cons_succ, i64_w, i32_w]
              rfl
            refine pure_ (i := 1) (N := some 97) (v := ?_) (a' := ?_) #[true, true, false, false, false, false, false, false, false, false, false] rfl rfl (by kernel_rfl) (fun _ _ _ h => h) (Or.inl ⟨by rfl, ?_⟩) ?_ ?_
            rotate_left
            · intro w'
              go_simp
              with_reducible rfl
            rotate_left
            · simp only [Act.put, List.setIfInBounds_toArray, List.set_cons_zero, List.set_cons_succ, i64_w, i32_w]
              rfl
            refine pure_ (i := 2) (N := some 98) (v := ?_) (a' := ?_) #[true, true, true, false, false, false, false, false, false, false, false] rfl rfl (by kernel_rfl) (fun _ _ _ h => h) (Or.inl ⟨by rfl, ?_⟩) ?_ ?_
            rotate_left
            · intro w'
              go_simp
              with_reducible rfl
            rotate_left
            · simp only [Act.put, List.setIfInBounds_toArray, List.set_cons_zero, List.set_cons_succ, i64_w, i32_w]
              rfl
            refine pure_ (i := 3) (N := some 99) (v := ?_) (a' := ?_) #[true, true, true, true, false, false, false, false, false, false, false] rfl rfl (by kernel_rfl) (fun _ _ _ h => h) (Or.inl ⟨by rfl, ?_⟩) ?_ ?_
            rotate_left
            · intro w'
              go_simp
              with_reducible rfl
            rotate_left
            · simp only [Act.put, List.setIfInBounds_toArray, List.set_cons_zero, List.set_cons_succ, i64_w, i32_w]
              rfl
            refine pure_ (i := 4) (N := some 100) (v := ?_) (a' := ?_) #[true, true, true, true, true, false, false, false, false, false, false] rfl rfl (by kernel_rfl) (fun _ _ _ h => h) (Or.inl ⟨by rfl, ?_⟩) ?_ ?_
            rotate_left
            · intro w'
              go_simp
              with_reducible rfl
            rotate_left
            · simp only [Act.put, List.setIfInBounds_toArray, List.set_cons_zero, List.set_cons_succ, i64_w, i32_w]
              rfl
            refine pure_ (i := 5) (N := some 101) (v := ?_) (a' := ?_) #[true, true, true, true, true, true, false, false, false, false, false] rfl rfl (by kernel_rfl) (fun _ _ _ h => h) (Or.inl ⟨by rfl, ?_⟩) ?_ ?_
            rotate_left
            · intro w'
              go_simp
              with_reducible rfl
            rotate_left
            · simp only [Act.put, List.setIfInBounds_toArray, List.set_cons_zero, List.set_cons_succ, i64_w, i32_w]
              rfl
            refine pure_ (i := 6) (N := some 102) (v := ?_) (a' := ?_) #[true, true, true, true, true, true, true, false, false, false, false] rfl rfl (by kernel_rfl) (fun _ _ _ h => h) (Or.inl ⟨by rfl, ?_⟩) ?_ ?_
            rotate_left
            · intro w'
              go_simp
              with_reducible rfl
            rotate_left
            · simp only [Act.put, List.setIfInBounds_toArray, List.set_cons_zero, List.set_cons_succ, i64_w, i32_w]
              rfl
            refine one_ (i := 7) (N := some 103) #[true, true, true, true, true, true, true, true, false, false, false] rfl rfl (by kernel_rfl) (by decide) (fun K hK => ?_)
            refine goes_ Try.func92 (by kernel_rfl) rfl #[.slice (some ⟨o, b, none⟩) (m + 1 : Nat) (n - b : Nat)] (by rfl) rfl rfl (by (try simp only [List.map_toArray, List.map_cons, List.map_nil]); first | done | rfl) ?_
            with_reducible refine (HCL.out _ (below_drew (Below.refl _ _))).mono ?_
            rintro e11 w11 ⟨g11, cap11, rfl, ho11, hb11⟩
            refine ⟨_, rfl, ?_⟩
            have H11 := Aside0.mk (And.intro ho11 (below_step (below_drew (Below.refl w10.heap.size w10)) hb11))
            clear ho11 hb11
            refine hK.out _ _ (HC0.out _ H11.out.2) (fun hHeld => ?_)
            clear hK K
            refine norm_ (a' := ?_) ?_ ?_
            rotate_left
            · show Act.put _ (some 103) _ = _
              simp only [Act.put, List.setIfInBounds_toArray, List.set_cons_zero, List.set_cons_succ, i64_w, i32_w]
              rfl
            refine pure_ (i := 8) (N := some 104) (v := ?_) (a' := ?_) #[true, true, true, true, true, true, true, true, true, false, false] rfl rfl (by kernel_rfl) (fun _ _ _ h => h) (Or.inl ⟨by rfl, ?_⟩) ?_ ?_
            rotate_left
            · intro w'
              go_simp
              with_reducible rfl
            rotate_left
            · simp only [Act.put, List.setIfInBounds_toArray, List.set_cons_zero, List.set_cons_succ, i64_w, i32_w]
              rfl
            refine pure_ (i := 9) (N := some 105) (v := ?_) (a' := ?_) #[true, true, true, true, true, true, true, true, true, true, false] rfl rfl (by kernel_rfl) (fun _ _ _ h => h) (Or.inl ⟨by rfl, ?_⟩) ?_ ?_
            rotate_left
            · intro w'
              go_simp
              with_reducible rfl
            rotate_left
            · simp only [Act.put, List.setIfInBounds_toArray, List.set_cons_zero, List.set_cons_succ, i64_w, i32_w]
              rfl
            refine last_ (i := 10) (N := none) #[true, true, true, true, true, true, true, true, true, true, true] rfl rfl (by kernel_rfl) (by decide) (fun K hK => ?_)
            have hx11 := HB10.out.2.1.below H11.out.2
            have cb4 := hx11.at_ (i := 4) rfl
            have fb4 := hx11.free 4
            clear hx11
            refine skip_ (w1 := ?_) (by rfl) rfl ?_ ?_
            rotate_left
            · go_simp
              rfl
            refine hK.out _ _ ?_
            clear hK K
            refine done_ (by kernel_rfl) ?_
            clear k1 k2 k3 k4 k5 k6 hHeld cb4 fb4
            have hsl : (segS xs).length = m + 1 := by
              have := segS_length (xs := xs) (by rw [HOK.out.2.2.1]; omega) (by rw [HOK.out.2.2.1]; have := HOK.out.2.2.2; omega)
              rw [this, HOK.out.2.2.1]
              have := HOK.out.2.2.2
              omega
            have hseg : ((ordS xs).drop b).take (m + 1) = segS xs := by
              unfold segS
              rw [← HBS.out, HOK.out.2.2.1, show n / 2 = m by have := HOK.out.2.2.2; omega]
            have ho := H11.out.1
            rw [hseg, ← hsl] at ho
            have hri : RI w11 w.heap.size (fun _ => True) (.slice (some ⟨g11, 0, none⟩) (segS xs).length cap11) (segS xs) := RI_of (own_lower ho HB10.out.1.size) (fun _ _ => trivial)
            have hb11 := HB10.out.2.1.below H11.out.2
            have hri2 := Kd.R_set hri hb11 (by intro q h; simp [Kd.int, Kd.scalar] at h; omega) 4 (.slice (some ⟨g11, 0, none⟩) (segS xs).length cap11)
            have hg11 : w.heap.size ≤ g11 := by
              rcases ho.2 with ⟨h, _⟩ | ⟨_, _, _, h, hg, _⟩
              · cases h
              · cases h; exact Nat.le_trans HB10.out.1.size hg
            have hk12 := (HB10.out.1.then_below H11.out.2).setCell (p := ⟨bt, 4, none⟩) (fun _ => rfl) (.slice (some ⟨g11, 0, none⟩) (segS xs).length cap11)
            have hb12 := hb11.set 4 (.slice (some ⟨g11, 0, none⟩) (segS xs).length cap11)
            have hc12 := (HB10.out.2.2.2.below H11.out.2).far hnb (p := ⟨bt, 4, none⟩) (.slice (some ⟨g11, 0, none⟩) (segS xs).length cap11)
            rw [hsl] at hri2 hk12 hb12 hc12
            have H12 := Aside0.mk (And.intro hk12 (And.intro hb12 (And.intro hc12 (And.intro hri2 hg11))))
            clear ho hri hb11 hri2 hg11 hk12 hb12 hc12 hseg
            go_upto_region 21 with fail
            generalize w11.setCell ⟨bt, 4, none⟩ (.slice (some ⟨g11, 0, none⟩) (m + 1) cap11) = w12 at H12 ⊢
            have t0 := H12.out.2.2.1.at_ (i := 0) rfl
            have t4 := H12.out.2.1.at_ (i := 4) rfl
            have HSO := Aside0.mk (sort_any H12.out.2.2.2.1 (by omega))
            have HSL := Aside0.mk hsl
            clear hsl
            go_wp2_with ((with_reducible refine HSO.out.mono ?_); rintro e13 w13 ⟨rfl, hr13, hg13⟩; have H13 := Aside0.mk (And.intro hr13 hg13); clear hr13 hg13)
            go_end0
            refine ⟨rfl, H12.out.1.grownF H13.out.2 H12.out.2.2.2.2, 1, _, ?_, .inl ⟨HGY.out, rfl, by rw [← segS_sorted]; exact H13.out.1⟩⟩
            refine (H13.out.2.block bt H12.out.2.1.lt ?_).trans H12.out.2.1
            intro he
            have h1 : bt = g11 := by simpa [Value.ownBlock] using he
            have := H12.out.2.2.2.2
            have := HB1.out.2
            omega
          · have dg : decide (x * 10000 ≤ tol * y) = false := decide_eq_false hg
            have HGN := Aside0.mk (fun h => hg (HGS.out.1 h))
            by_cases h8 : n = 8
            · have d8 : ((n : Int) == 8) = true := by subst h8; rfl
              have hbl := HT9.out.b.set 2 (.int .i64 2)
              have HE := Aside0.mk (And.intro ((Kp.of_below HW9.out : Kp (fun k => k = bt) w wr).setCell (p := ⟨bt, 2, none⟩) (fun _ => rfl) (.int .i64 2)) hbl)
              have HN8 := Aside0.mk h8
              clear h8 hbl
              go_wp2_with fail
              go_end0
              exact ⟨rfl, HE.out.1, 2, vu, HE.out.2, .inr ⟨HGN.out, by rw [HOK.out.2.2.1, if_pos HN8.out], rfl⟩⟩
            · have d8 : ((n : Int) == 8) = false := by simp; omega
              have HN8 := Aside0.mk h8
              clear h8
              go_wp2_with fail
              go_end0
              exact ⟨rfl, Kp.of_below HW9.out, st, vu, HT9.out.b, .inr ⟨HGN.out, by rw [HOK.out.2.2.1, if_neg HN8.out], rfl⟩⟩
end Go.Proofs.Ythkfahkkcjagdaa
