/- The reference's rounded quotient, wool base and yields, and ClassingBases' walk. -/
import Derived.Test.YthkfahkkcjagdaaMBc
import Derived.Test.YthkfahkkcjagdaaWGuard
import Derived.Test.YthkfahkkcjagdaaD2
namespace Go.Proofs.Ythkfahkkcjagdaa
open PClassingBases Go.RowKit Go.Proofs.YthkfahkkcjagdaaW.PrintWords Go.Proofs.YthkfahkkcjagdaaW.PrintMore Go.Proofs.YthkfahkkcjagdaaW.PrintLast
set_option linter.unusedVariables false
set_option linter.unusedSimpArgs false

/-- The quotient, rounded half to even. -/
def evenN (a b : Nat) : Nat := if a % b = 0 then a / b else if b < a % b + a % b ∨ (a % b + a % b = b ∧ a / b % 2 = 1) then a / b + 1 else a / b
theorem big_zero0 {a : Nat} {u : Value} {w : World} {z : Bool} (hz : decide (a = 0) = z) (hu : BD w u a) :
    Calls Try.prog 116 #[.agg #[.bool false, u]] w fun e w' => e = .returned (.bool z) ∧ Below w.heap.size w w' := hz ▸ big_zero false hu
theorem big_of0 {x : Int} (h1 : 0 ≤ x) (h2 : x ≤ 9223372036854775807) (w : World) :
    Calls Try.prog 74 #[.int .i64 x] w fun e w' => ∃ A m c, e = .returned (.agg #[.bool false, .slice A m c]) ∧ BD w' (.slice A m c) x.toNat ∧ Below w.heap.size w w' := by
  refine (big_of x w (by omega) h2).mono ?_
  rintro e w' ⟨v, rfl, h, hb⟩
  obtain ⟨A, m, c, rfl⟩ := h.slice
  refine ⟨A, m, c, ?_, ?_, hb⟩
  · rw [decide_eq_false (by omega)]
  · rwa [show x.toNat = x.natAbs by omega]
theorem Sm_add {a b : Nat} (h : (dig a).length ≤ 99) (hb : b ≤ a) : Sm (a + b) := by
  have h1 := val_lt (Rng_dig a)
  rw [val_dig] at h1
  refine dig_len_lt ?_
  have h2 : 10000 ^ (dig a).length ≤ 10000 ^ 99 := Nat.pow_le_pow_right (by decide) h
  rw [Nat.pow_succ 10000 99]
  generalize 10000 ^ 99 = P at *
  generalize 10000 ^ (dig a).length = P2 at *
  omega
/-- The first digit, and that there is one. -/
theorem BD.first {w : World} {A : Option Addr} {m c n : Nat} (h : BD w (.slice A m c) n) : (n = 0 → m = 0) ∧ (0 < n → 0 < m ∧ ∃ ad, A = some ad ∧ w.cell? ad = some (.int .i64 ((n % 10000 : Nat) : Int))) := by
  obtain ⟨A', c', e, hc, hr⟩ := h
  simp only [Value.slice.injEq] at e
  obtain ⟨rfl, rfl, rfl⟩ := e
  refine ⟨fun h0 => dig_len0.2 h0, fun h0 => ?_⟩
  have hl : 0 < (dig n).length := by
    have := fun h => (@dig_len0 n).1 h
    omega
  obtain ⟨ad, cc, h1, h2, h3, h4⟩ := Kd.C_get hr 0 0 (Int.le_refl _) (by omega)
  refine ⟨hl, ad, h1, ?_⟩
  have h5 : (dig n).getD (Int.toNat 0) 0 = ((n % 10000 : Nat) : Int) := by rw [dig_pos h0]; rfl
  rw [h5] at h3
  have h6 : cc = [.int .i64 ((n % 10000 : Nat) : Int)] := h3
  have := h4 0 _ (by rw [h6]; rfl)
  have e : ad.add (Int.toNat 0 * (Kd.int .i64).sz + 0) = ad := by
    show ad.add 0 = ad
    simp [Addr.add]
  rwa [e] at this
set_option maxHeartbeats 8000000 in
set_option maxRecDepth 100000 in
theorem rounded_any {a b : Nat} {u v : Value} {w : World} (hu : BD w u a) (hv : BD w v b) (ha : Sm a) (h0 : 0 < b) (hb9 : (dig b).length ≤ 99) :
    Calls Try.prog 79 #[.agg #[.bool false, u], .agg #[.bool false, v], .int .i64 4] w fun e w' => ∃ A m c, e = .returned (.agg #[.bool false, .slice A m c]) ∧ BD w' (.slice A m c) (evenN a b) ∧ Below w.heap.size w w' := by
  have hb : Sm b := Nat.le_trans hb9 (by decide)
  have hu117 := Try.underlying117
  have HSS : Aside0 (Sm (a % b + a % b)) := ⟨Sm_add (Nat.le_trans (dig_mono (Nat.le_of_lt (Nat.mod_lt a h0))) hb9) (Nat.le_refl _)⟩
  have HS1 : Aside0 (Sm (Int.toNat 1)) := ⟨Nat.le_trans (dig_len_lt (n := Int.toNat 1) (e := 1) (by decide)) (by decide)⟩
  have HSQ := Aside0.mk (Sm.of_le (Nat.div_le_self a b) ha)
  have HSR := Aside0.mk (Sm.of_le (Nat.le_of_lt (Nat.mod_lt a h0)) hb)
  have HA := Aside0.mk ha
  have HBB := Aside0.mk hb
  have H0 := Aside0.mk h0
  obtain ⟨z, hz⟩ : ∃ z, decide (a % b = 0) = z := ⟨_, rfl⟩
  have HZ := Aside0.mk hz
  obtain ⟨s, hs⟩ : ∃ s, sg (a % b + a % b) b = s := ⟨_, rfl⟩
  have HC := Aside0.mk hs
  clear ha hb h0 hb9 hz hs
  obtain ⟨A, m, c, rfl⟩ := hu.slice
  obtain ⟨A2, m2, c2, rfl⟩ := hv.slice
  have HU := Aside0.mk hu
  have HV := Aside0.mk hv
  have HS : Aside0 (Below w.heap.size w w) := ⟨Below.refl _ _⟩
  clear hu hv
  go_enter Try.func79, Try.ntmps79
  go_upto_region 4 with (first
    | ((with_reducible refine gate_dst (N := 3) rfl ?_); (try (refine gate_guard (by rfl) ?_; dsimp only)); refine box_event ?hg (N := 3) ?hd (cs := #[.bool false, .slice A m c]) (t := 117) ?hr ?_; (case hd => rfl); (case hg => rfl); (case hr => first | (go_simp; done) | (go_simp; rfl)); intro g3 hg_ v1_ hbox hb; have ge_g3 : Aside0 (w.heap.size ≤ g3) := ⟨by rw [hg_]; exact below_size (HS.out)⟩; have HT : Aside0 (Below w.heap.size w v1_ ∧ v1_.heap[g3]? = some (.cells #[.bool false, .slice A m c] 117 (0, 0))) := ⟨⟨below_step HS.out hb, hbox⟩⟩; clear HS; have HS := HT; clear HT hb hbox hg_; have cv1__g3_0 : v1_.cell? ⟨g3, 0, none⟩ = some (.bool false) := (blk_cell (HS.out.2) 0).trans rfl; have cv1__g3_1 : v1_.cell? ⟨g3, 1, none⟩ = some (.slice A m c) := (blk_cell (HS.out.2) 1).trans rfl)
    | ((with_reducible refine gate_dst (N := 4) rfl ?_); (try (refine gate_guard (by rfl) ?_; dsimp only)); refine box_event ?hg (N := 4) ?hd (cs := #[.bool false, .slice A2 m2 c2]) (t := 117) ?hr ?_; (case hd => rfl); (case hg => rfl); (case hr => first | (go_simp; done) | (go_simp; rfl)); intro g4 hg_ v2_ hbox hb; have ge_g4 : Aside0 (w.heap.size ≤ g4) := ⟨by rw [hg_]; exact below_size (HS.out.1)⟩; have ne_g3_g4 : g3 ≠ g4 := (by rw [hg_]; exact Nat.ne_of_lt (blk_lt (HS.out.2))); have ne_g4_g3 : g4 ≠ g3 := (by rw [hg_]; exact Nat.ne_of_gt (blk_lt (HS.out.2))); have HT : Aside0 (Below w.heap.size w v2_ ∧ v2_.heap[g3]? = some (.cells #[.bool false, .slice A m c] 117 (0, 0)) ∧ v2_.heap[g4]? = some (.cells #[.bool false, .slice A2 m2 c2] 117 (0, 0))) := ⟨⟨below_step HS.out.1 hb, blk_below HS.out.2 hb, hbox⟩⟩; clear HS; have HS := HT; clear HT hb hbox hg_; have cv2__g3_0 : v2_.cell? ⟨g3, 0, none⟩ = some (.bool false) := (blk_cell (HS.out.2.1) 0).trans rfl; have cv2__g3_1 : v2_.cell? ⟨g3, 1, none⟩ = some (.slice A m c) := (blk_cell (HS.out.2.1) 1).trans rfl; have cv2__g4_0 : v2_.cell? ⟨g4, 0, none⟩ = some (.bool false) := (blk_cell (HS.out.2.2) 0).trans rfl; have cv2__g4_1 : v2_.cell? ⟨g4, 1, none⟩ = some (.slice A2 m2 c2) := (blk_cell (HS.out.2.2) 1).trans rfl)
    | ((with_reducible refine gate_dst (N := 6) rfl ?_); (try (refine gate_guard (by rfl) ?_; dsimp only)); refine box_event ?hg (N := 6) ?hd (cs := #[.bool false, .slice none 0 0]) (t := 117) ?hr ?_; (case hd => rfl); (case hg => rfl); (case hr => first | (go_simp; done) | (go_simp; rfl)); intro g6 hg_ v3_ hbox hb; have ge_g6 : Aside0 (w.heap.size ≤ g6) := ⟨by rw [hg_]; exact below_size (HS.out.1)⟩; have ne_g3_g6 : g3 ≠ g6 := (by rw [hg_]; exact Nat.ne_of_lt (blk_lt (HS.out.2.1))); have ne_g6_g3 : g6 ≠ g3 := (by rw [hg_]; exact Nat.ne_of_gt (blk_lt (HS.out.2.1))); have ne_g4_g6 : g4 ≠ g6 := (by rw [hg_]; exact Nat.ne_of_lt (blk_lt (HS.out.2.2))); have ne_g6_g4 : g6 ≠ g4 := (by rw [hg_]; exact Nat.ne_of_gt (blk_lt (HS.out.2.2))); have HT : Aside0 (Below w.heap.size w v3_ ∧ v3_.heap[g3]? = some (.cells #[.bool false, .slice A m c] 117 (0, 0)) ∧ v3_.heap[g4]? = some (.cells #[.bool false, .slice A2 m2 c2] 117 (0, 0)) ∧ v3_.heap[g6]? = some (.cells #[.bool false, .slice none 0 0] 117 (0, 0))) := ⟨⟨below_step HS.out.1 hb, blk_below HS.out.2.1 hb, blk_below HS.out.2.2 hb, hbox⟩⟩; clear HS; have HS := HT; clear HT hb hbox hg_; have cv3__g3_0 : v3_.cell? ⟨g3, 0, none⟩ = some (.bool false) := (blk_cell (HS.out.2.1) 0).trans rfl; have cv3__g3_1 : v3_.cell? ⟨g3, 1, none⟩ = some (.slice A m c) := (blk_cell (HS.out.2.1) 1).trans rfl; have cv3__g4_0 : v3_.cell? ⟨g4, 0, none⟩ = some (.bool false) := (blk_cell (HS.out.2.2.1) 0).trans rfl; have cv3__g4_1 : v3_.cell? ⟨g4, 1, none⟩ = some (.slice A2 m2 c2) := (blk_cell (HS.out.2.2.1) 1).trans rfl; have cv3__g6_0 : v3_.cell? ⟨g6, 0, none⟩ = some (.bool false) := (blk_cell (HS.out.2.2.2) 0).trans rfl; have zv3__g6_0 : v3_.frozen? ⟨g6, 0, none⟩ = false := blk_frozen (HS.out.2.2.2) 0; have cv3__g6_1 : v3_.cell? ⟨g6, 1, none⟩ = some (.slice none 0 0) := (blk_cell (HS.out.2.2.2) 1).trans rfl; have zv3__g6_1 : v3_.frozen? ⟨g6, 1, none⟩ = false := blk_frozen (HS.out.2.2.2) 1)
    | ((with_reducible refine gate_callee (f := 115) rfl ?_); (try (refine gate_guard (by rfl) ?_; dsimp only)); refine goesL_ (some 20) rfl rfl Try.func115 (by kernel_rfl) rfl #[.agg #[.bool false, .slice A m c], .agg #[.bool false, .slice A2 m2 c2]] rfl (by (try simp only [List.map_toArray, List.map_cons, List.map_nil]); first | done | rfl) ?_; (with_reducible refine (big_over0 H0.out (BD.below HU.out (HS.out.1)) (BD.below HV.out (HS.out.1)) HA.out HBB.out).mono ?_); rintro e v4_ ⟨Aq, mq, cq, Ar, mr, cr, rfl, hq_, hr_, hb⟩; refine ⟨_, rfl, ?_⟩; have HT : Aside0 (Below w.heap.size w v4_ ∧ v4_.heap[g3]? = some (.cells #[.bool false, .slice A m c] 117 (0, 0)) ∧ v4_.heap[g4]? = some (.cells #[.bool false, .slice A2 m2 c2] 117 (0, 0)) ∧ v4_.heap[g6]? = some (.cells #[.bool false, .slice none 0 0] 117 (0, 0))) := ⟨⟨below_step HS.out.1 hb, blk_below HS.out.2.1 hb, blk_below HS.out.2.2.1 hb, blk_below HS.out.2.2.2 hb⟩⟩; clear HS; have HS := HT; clear HT; have cv4__g3_0 : v4_.cell? ⟨g3, 0, none⟩ = some (.bool false) := (blk_cell (HS.out.2.1) 0).trans rfl; have cv4__g3_1 : v4_.cell? ⟨g3, 1, none⟩ = some (.slice A m c) := (blk_cell (HS.out.2.1) 1).trans rfl; have cv4__g4_0 : v4_.cell? ⟨g4, 0, none⟩ = some (.bool false) := (blk_cell (HS.out.2.2.1) 0).trans rfl; have cv4__g4_1 : v4_.cell? ⟨g4, 1, none⟩ = some (.slice A2 m2 c2) := (blk_cell (HS.out.2.2.1) 1).trans rfl; have cv4__g6_0 : v4_.cell? ⟨g6, 0, none⟩ = some (.bool false) := (blk_cell (HS.out.2.2.2) 0).trans rfl; have zv4__g6_0 : v4_.frozen? ⟨g6, 0, none⟩ = false := blk_frozen (HS.out.2.2.2) 0; have cv4__g6_1 : v4_.cell? ⟨g6, 1, none⟩ = some (.slice none 0 0) := (blk_cell (HS.out.2.2.2) 1).trans rfl; have zv4__g6_1 : v4_.frozen? ⟨g6, 1, none⟩ = false := blk_frozen (HS.out.2.2.2) 1; have HQ := Aside0.mk hq_; have HR := Aside0.mk hr_; clear hq_ hr_; have HT := Aside0.mk (And.intro HS.out (Below.refl v4_.heap.size v4_)); clear HT; have HT : Aside0 (Below w.heap.size w v4_ ∧ v4_.heap[g3]? = some (.cells #[.bool false, .slice A m c] 117 (0, 0)) ∧ v4_.heap[g4]? = some (.cells #[.bool false, .slice A2 m2 c2] 117 (0, 0)) ∧ v4_.heap[g6]? = some (.cells #[.bool false, .slice none 0 0] 117 (0, 0)) ∧ Below v4_.heap.size v4_ v4_) := ⟨⟨HS.out.1, HS.out.2.1, HS.out.2.2.1, HS.out.2.2.2, Below.refl _ _⟩⟩; clear HS; have HS := HT; clear HT)
    | ((with_reducible refine gate_dst (N := 7) rfl ?_); (try (refine gate_guard (by rfl) ?_; dsimp only)); refine box_event ?hg (N := 7) ?hd (cs := #[.bool false, .slice none 0 0]) (t := 117) ?hr ?_; (case hd => rfl); (case hg => rfl); (case hr => first | (go_simp; done) | (go_simp; rfl)); intro g7 hg_ v5_ hbox hb; have ge_g7 : Aside0 (w.heap.size ≤ g7) := ⟨by rw [hg_]; exact below_size (HS.out.1)⟩; have gx_v4__g7 : Aside0 (v4_.heap.size ≤ g7) := ⟨by rw [hg_]; exact below_size (HS.out.2.2.2.2)⟩; have ne_g3_g7 : g3 ≠ g7 := (by rw [hg_]; exact Nat.ne_of_lt (blk_lt (HS.out.2.1))); have ne_g7_g3 : g7 ≠ g3 := (by rw [hg_]; exact Nat.ne_of_gt (blk_lt (HS.out.2.1))); have ne_g4_g7 : g4 ≠ g7 := (by rw [hg_]; exact Nat.ne_of_lt (blk_lt (HS.out.2.2.1))); have ne_g7_g4 : g7 ≠ g4 := (by rw [hg_]; exact Nat.ne_of_gt (blk_lt (HS.out.2.2.1))); have ne_g6_g7 : g6 ≠ g7 := (by rw [hg_]; exact Nat.ne_of_lt (blk_lt (HS.out.2.2.2.1))); have ne_g7_g6 : g7 ≠ g6 := (by rw [hg_]; exact Nat.ne_of_gt (blk_lt (HS.out.2.2.2.1))); have HT : Aside0 (Below w.heap.size w v5_ ∧ v5_.heap[g3]? = some (.cells #[.bool false, .slice A m c] 117 (0, 0)) ∧ v5_.heap[g4]? = some (.cells #[.bool false, .slice A2 m2 c2] 117 (0, 0)) ∧ v5_.heap[g6]? = some (.cells #[.bool false, .slice none 0 0] 117 (0, 0)) ∧ Below v4_.heap.size v4_ v5_ ∧ v5_.heap[g7]? = some (.cells #[.bool false, .slice none 0 0] 117 (0, 0))) := ⟨⟨below_step HS.out.1 hb, blk_below HS.out.2.1 hb, blk_below HS.out.2.2.1 hb, blk_below HS.out.2.2.2.1 hb, below_step HS.out.2.2.2.2 hb, hbox⟩⟩; clear HS; have HS := HT; clear HT hb hbox hg_; have cv5__g4_0 : v5_.cell? ⟨g4, 0, none⟩ = some (.bool false) := (blk_cell (HS.out.2.2.1) 0).trans rfl; have cv5__g4_1 : v5_.cell? ⟨g4, 1, none⟩ = some (.slice A2 m2 c2) := (blk_cell (HS.out.2.2.1) 1).trans rfl; have cv5__g6_0 : v5_.cell? ⟨g6, 0, none⟩ = some (.bool false) := (blk_cell (HS.out.2.2.2.1) 0).trans rfl; have zv5__g6_0 : v5_.frozen? ⟨g6, 0, none⟩ = false := blk_frozen (HS.out.2.2.2.1) 0; have cv5__g6_1 : v5_.cell? ⟨g6, 1, none⟩ = some (.slice none 0 0) := (blk_cell (HS.out.2.2.2.1) 1).trans rfl; have zv5__g6_1 : v5_.frozen? ⟨g6, 1, none⟩ = false := blk_frozen (HS.out.2.2.2.1) 1; have cv5__g7_0 : v5_.cell? ⟨g7, 0, none⟩ = some (.bool false) := (blk_cell (HS.out.2.2.2.2.2) 0).trans rfl; have zv5__g7_0 : v5_.frozen? ⟨g7, 0, none⟩ = false := blk_frozen (HS.out.2.2.2.2.2) 0; have cv5__g7_1 : v5_.cell? ⟨g7, 1, none⟩ = some (.slice none 0 0) := (blk_cell (HS.out.2.2.2.2.2) 1).trans rfl; have zv5__g7_1 : v5_.frozen? ⟨g7, 1, none⟩ = false := blk_frozen (HS.out.2.2.2.2.2) 1)
    | ((with_reducible refine gate_dst (N := 8) rfl ?_); (try (refine gate_guard (by rfl) ?_; dsimp only)); refine box_event ?hg (N := 8) ?hd (cs := #[.bool false, .slice none 0 0]) (t := 117) ?hr ?_; (case hd => rfl); (case hg => rfl); (case hr => first | (go_simp; done) | (go_simp; rfl)); intro g8 hg_ v6_ hbox hb; have ge_g8 : Aside0 (w.heap.size ≤ g8) := ⟨by rw [hg_]; exact below_size (HS.out.1)⟩; have gx_v4__g8 : Aside0 (v4_.heap.size ≤ g8) := ⟨by rw [hg_]; exact below_size (HS.out.2.2.2.2.1)⟩; have ne_g3_g8 : g3 ≠ g8 := (by rw [hg_]; exact Nat.ne_of_lt (blk_lt (HS.out.2.1))); have ne_g8_g3 : g8 ≠ g3 := (by rw [hg_]; exact Nat.ne_of_gt (blk_lt (HS.out.2.1))); have ne_g4_g8 : g4 ≠ g8 := (by rw [hg_]; exact Nat.ne_of_lt (blk_lt (HS.out.2.2.1))); have ne_g8_g4 : g8 ≠ g4 := (by rw [hg_]; exact Nat.ne_of_gt (blk_lt (HS.out.2.2.1))); have ne_g6_g8 : g6 ≠ g8 := (by rw [hg_]; exact Nat.ne_of_lt (blk_lt (HS.out.2.2.2.1))); have ne_g8_g6 : g8 ≠ g6 := (by rw [hg_]; exact Nat.ne_of_gt (blk_lt (HS.out.2.2.2.1))); have ne_g7_g8 : g7 ≠ g8 := (by rw [hg_]; exact Nat.ne_of_lt (blk_lt (HS.out.2.2.2.2.2))); have ne_g8_g7 : g8 ≠ g7 := (by rw [hg_]; exact Nat.ne_of_gt (blk_lt (HS.out.2.2.2.2.2))); have HT : Aside0 (Below w.heap.size w v6_ ∧ v6_.heap[g3]? = some (.cells #[.bool false, .slice A m c] 117 (0, 0)) ∧ v6_.heap[g4]? = some (.cells #[.bool false, .slice A2 m2 c2] 117 (0, 0)) ∧ v6_.heap[g6]? = some (.cells #[.bool false, .slice none 0 0] 117 (0, 0)) ∧ Below v4_.heap.size v4_ v6_ ∧ v6_.heap[g7]? = some (.cells #[.bool false, .slice none 0 0] 117 (0, 0)) ∧ v6_.heap[g8]? = some (.cells #[.bool false, .slice none 0 0] 117 (0, 0))) := ⟨⟨below_step HS.out.1 hb, blk_below HS.out.2.1 hb, blk_below HS.out.2.2.1 hb, blk_below HS.out.2.2.2.1 hb, below_step HS.out.2.2.2.2.1 hb, blk_below HS.out.2.2.2.2.2 hb, hbox⟩⟩; clear HS; have HS := HT; clear HT hb hbox hg_; have cv6__g4_0 : v6_.cell? ⟨g4, 0, none⟩ = some (.bool false) := (blk_cell (HS.out.2.2.1) 0).trans rfl; have cv6__g4_1 : v6_.cell? ⟨g4, 1, none⟩ = some (.slice A2 m2 c2) := (blk_cell (HS.out.2.2.1) 1).trans rfl; have cv6__g6_0 : v6_.cell? ⟨g6, 0, none⟩ = some (.bool false) := (blk_cell (HS.out.2.2.2.1) 0).trans rfl; have zv6__g6_0 : v6_.frozen? ⟨g6, 0, none⟩ = false := blk_frozen (HS.out.2.2.2.1) 0; have cv6__g6_1 : v6_.cell? ⟨g6, 1, none⟩ = some (.slice none 0 0) := (blk_cell (HS.out.2.2.2.1) 1).trans rfl; have zv6__g6_1 : v6_.frozen? ⟨g6, 1, none⟩ = false := blk_frozen (HS.out.2.2.2.1) 1; have cv6__g7_0 : v6_.cell? ⟨g7, 0, none⟩ = some (.bool false) := (blk_cell (HS.out.2.2.2.2.2.1) 0).trans rfl; have zv6__g7_0 : v6_.frozen? ⟨g7, 0, none⟩ = false := blk_frozen (HS.out.2.2.2.2.2.1) 0; have cv6__g7_1 : v6_.cell? ⟨g7, 1, none⟩ = some (.slice none 0 0) := (blk_cell (HS.out.2.2.2.2.2.1) 1).trans rfl; have zv6__g7_1 : v6_.frozen? ⟨g7, 1, none⟩ = false := blk_frozen (HS.out.2.2.2.2.2.1) 1; have cv6__g8_0 : v6_.cell? ⟨g8, 0, none⟩ = some (.bool false) := (blk_cell (HS.out.2.2.2.2.2.2) 0).trans rfl; have zv6__g8_0 : v6_.frozen? ⟨g8, 0, none⟩ = false := blk_frozen (HS.out.2.2.2.2.2.2) 0; have cv6__g8_1 : v6_.cell? ⟨g8, 1, none⟩ = some (.slice none 0 0) := (blk_cell (HS.out.2.2.2.2.2.2) 1).trans rfl; have zv6__g8_1 : v6_.frozen? ⟨g8, 1, none⟩ = false := blk_frozen (HS.out.2.2.2.2.2.2) 1))
  obtain ⟨v7_, hw_v7_⟩ : ∃ z_, z_ = ((v6_).setCell ⟨g7, 0, none⟩ (.bool false)).setCell ⟨g7, 1, none⟩ (.slice Aq mq cq) := ⟨_, rfl⟩
  have HT : Aside0 (Below w.heap.size w v7_ ∧ v7_.heap[g3]? = some (.cells #[.bool false, .slice A m c] 117 (0, 0)) ∧ v7_.heap[g4]? = some (.cells #[.bool false, .slice A2 m2 c2] 117 (0, 0)) ∧ v7_.heap[g6]? = some (.cells #[.bool false, .slice none 0 0] 117 (0, 0)) ∧ Below v4_.heap.size v4_ v7_ ∧ v7_.heap[g7]? = some (.cells #[.bool false, .slice Aq mq cq] 117 (0, 0)) ∧ v7_.heap[g8]? = some (.cells #[.bool false, .slice none 0 0] 117 (0, 0))) := ⟨hw_v7_ ▸ ⟨below_set (below_set (HS.out.1) (ge_g7.out)) (ge_g7.out), blk_far (blk_far (HS.out.2.1) ne_g3_g7 (.bool false)) ne_g3_g7 (.slice Aq mq cq), blk_far (blk_far (HS.out.2.2.1) ne_g4_g7 (.bool false)) ne_g4_g7 (.slice Aq mq cq), blk_far (blk_far (HS.out.2.2.2.1) ne_g6_g7 (.bool false)) ne_g6_g7 (.slice Aq mq cq), below_set (below_set (HS.out.2.2.2.2.1) (gx_v4__g7.out)) (gx_v4__g7.out), blk_put (blk_put (HS.out.2.2.2.2.2.1) 0 (.bool false) (cs' := #[.bool false, .slice none 0 0]) rfl) 1 (.slice Aq mq cq) (cs' := #[.bool false, .slice Aq mq cq]) rfl, blk_far (blk_far (HS.out.2.2.2.2.2.2) ne_g8_g7 (.bool false)) ne_g8_g7 (.slice Aq mq cq)⟩⟩
  clear HS
  have HS := HT
  clear HT
  obtain ⟨v8_, hw_v8_⟩ : ∃ z_, z_ = ((v7_).setCell ⟨g8, 0, none⟩ (.bool false)).setCell ⟨g8, 1, none⟩ (.slice Ar mr cr) := ⟨_, rfl⟩
  have HT : Aside0 (Below w.heap.size w v8_ ∧ v8_.heap[g3]? = some (.cells #[.bool false, .slice A m c] 117 (0, 0)) ∧ v8_.heap[g4]? = some (.cells #[.bool false, .slice A2 m2 c2] 117 (0, 0)) ∧ v8_.heap[g6]? = some (.cells #[.bool false, .slice none 0 0] 117 (0, 0)) ∧ Below v4_.heap.size v4_ v8_ ∧ v8_.heap[g7]? = some (.cells #[.bool false, .slice Aq mq cq] 117 (0, 0)) ∧ v8_.heap[g8]? = some (.cells #[.bool false, .slice Ar mr cr] 117 (0, 0))) := ⟨hw_v8_ ▸ ⟨below_set (below_set (HS.out.1) (ge_g8.out)) (ge_g8.out), blk_far (blk_far (HS.out.2.1) ne_g3_g8 (.bool false)) ne_g3_g8 (.slice Ar mr cr), blk_far (blk_far (HS.out.2.2.1) ne_g4_g8 (.bool false)) ne_g4_g8 (.slice Ar mr cr), blk_far (blk_far (HS.out.2.2.2.1) ne_g6_g8 (.bool false)) ne_g6_g8 (.slice Ar mr cr), below_set (below_set (HS.out.2.2.2.2.1) (gx_v4__g8.out)) (gx_v4__g8.out), blk_far (blk_far (HS.out.2.2.2.2.2.1) ne_g7_g8 (.bool false)) ne_g7_g8 (.slice Ar mr cr), blk_put (blk_put (HS.out.2.2.2.2.2.2) 0 (.bool false) (cs' := #[.bool false, .slice none 0 0]) rfl) 1 (.slice Ar mr cr) (cs' := #[.bool false, .slice Ar mr cr]) rfl⟩⟩
  clear HS
  have HS := HT
  clear HT
  rw [← hw_v7_, ← hw_v8_]
  clear hw_v7_ hw_v8_
  have cv8__g4_0 : v8_.cell? ⟨g4, 0, none⟩ = some (.bool false) := (blk_cell (HS.out.2.2.1) 0).trans rfl
  have cv8__g4_1 : v8_.cell? ⟨g4, 1, none⟩ = some (.slice A2 m2 c2) := (blk_cell (HS.out.2.2.1) 1).trans rfl
  have cv8__g6_0 : v8_.cell? ⟨g6, 0, none⟩ = some (.bool false) := (blk_cell (HS.out.2.2.2.1) 0).trans rfl
  have zv8__g6_0 : v8_.frozen? ⟨g6, 0, none⟩ = false := blk_frozen (HS.out.2.2.2.1) 0
  have cv8__g6_1 : v8_.cell? ⟨g6, 1, none⟩ = some (.slice none 0 0) := (blk_cell (HS.out.2.2.2.1) 1).trans rfl
  have zv8__g6_1 : v8_.frozen? ⟨g6, 1, none⟩ = false := blk_frozen (HS.out.2.2.2.1) 1
  have cv8__g7_0 : v8_.cell? ⟨g7, 0, none⟩ = some (.bool false) := (blk_cell (HS.out.2.2.2.2.2.1) 0).trans rfl
  have zv8__g7_0 : v8_.frozen? ⟨g7, 0, none⟩ = false := blk_frozen (HS.out.2.2.2.2.2.1) 0
  have cv8__g7_1 : v8_.cell? ⟨g7, 1, none⟩ = some (.slice Aq mq cq) := (blk_cell (HS.out.2.2.2.2.2.1) 1).trans rfl
  have zv8__g7_1 : v8_.frozen? ⟨g7, 1, none⟩ = false := blk_frozen (HS.out.2.2.2.2.2.1) 1
  have cv8__g8_0 : v8_.cell? ⟨g8, 0, none⟩ = some (.bool false) := (blk_cell (HS.out.2.2.2.2.2.2) 0).trans rfl
  have zv8__g8_0 : v8_.frozen? ⟨g8, 0, none⟩ = false := blk_frozen (HS.out.2.2.2.2.2.2) 0
  have cv8__g8_1 : v8_.cell? ⟨g8, 1, none⟩ = some (.slice Ar mr cr) := (blk_cell (HS.out.2.2.2.2.2.2) 1).trans rfl
  have zv8__g8_1 : v8_.frozen? ⟨g8, 1, none⟩ = false := blk_frozen (HS.out.2.2.2.2.2.2) 1
  cases z with
  | true =>
    have hr0 : a % b = 0 := of_decide_eq_true HZ.out
    have HE : Aside0 (evenN a b = a / b) := ⟨if_pos hr0⟩
    clear hr0
    go_wp2_with (first
      | ((with_reducible refine gate_callee (f := 116) rfl ?_); (try (refine gate_guard (by rfl) ?_; dsimp only)); refine goesL_ (some 24) rfl rfl Try.func116 (by kernel_rfl) rfl #[.agg #[.bool false, .slice Ar mr cr]] rfl (by (try simp only [List.map_toArray, List.map_cons, List.map_nil]); first | done | rfl) ?_; (with_reducible refine (big_zero0 HZ.out (BD.below HR.out (HS.out.2.2.2.2.1))).mono ?_); rintro e v9_ ⟨rfl, hb⟩; refine ⟨_, rfl, ?_⟩; have HT : Aside0 (Below w.heap.size w v9_ ∧ v9_.heap[g3]? = some (.cells #[.bool false, .slice A m c] 117 (0, 0)) ∧ v9_.heap[g4]? = some (.cells #[.bool false, .slice A2 m2 c2] 117 (0, 0)) ∧ v9_.heap[g6]? = some (.cells #[.bool false, .slice none 0 0] 117 (0, 0)) ∧ Below v4_.heap.size v4_ v9_ ∧ v9_.heap[g7]? = some (.cells #[.bool false, .slice Aq mq cq] 117 (0, 0)) ∧ v9_.heap[g8]? = some (.cells #[.bool false, .slice Ar mr cr] 117 (0, 0))) := ⟨⟨below_step HS.out.1 hb, blk_below HS.out.2.1 hb, blk_below HS.out.2.2.1 hb, blk_below HS.out.2.2.2.1 hb, below_step HS.out.2.2.2.2.1 hb, blk_below HS.out.2.2.2.2.2.1 hb, blk_below HS.out.2.2.2.2.2.2 hb⟩⟩; clear HS; have HS := HT; clear HT; have cv9__g4_0 : v9_.cell? ⟨g4, 0, none⟩ = some (.bool false) := (blk_cell (HS.out.2.2.1) 0).trans rfl; have cv9__g4_1 : v9_.cell? ⟨g4, 1, none⟩ = some (.slice A2 m2 c2) := (blk_cell (HS.out.2.2.1) 1).trans rfl; have cv9__g6_0 : v9_.cell? ⟨g6, 0, none⟩ = some (.bool false) := (blk_cell (HS.out.2.2.2.1) 0).trans rfl; have zv9__g6_0 : v9_.frozen? ⟨g6, 0, none⟩ = false := blk_frozen (HS.out.2.2.2.1) 0; have cv9__g6_1 : v9_.cell? ⟨g6, 1, none⟩ = some (.slice none 0 0) := (blk_cell (HS.out.2.2.2.1) 1).trans rfl; have zv9__g6_1 : v9_.frozen? ⟨g6, 1, none⟩ = false := blk_frozen (HS.out.2.2.2.1) 1; have cv9__g7_0 : v9_.cell? ⟨g7, 0, none⟩ = some (.bool false) := (blk_cell (HS.out.2.2.2.2.2.1) 0).trans rfl; have zv9__g7_0 : v9_.frozen? ⟨g7, 0, none⟩ = false := blk_frozen (HS.out.2.2.2.2.2.1) 0; have cv9__g7_1 : v9_.cell? ⟨g7, 1, none⟩ = some (.slice Aq mq cq) := (blk_cell (HS.out.2.2.2.2.2.1) 1).trans rfl; have zv9__g7_1 : v9_.frozen? ⟨g7, 1, none⟩ = false := blk_frozen (HS.out.2.2.2.2.2.1) 1; have cv9__g8_0 : v9_.cell? ⟨g8, 0, none⟩ = some (.bool false) := (blk_cell (HS.out.2.2.2.2.2.2) 0).trans rfl; have zv9__g8_0 : v9_.frozen? ⟨g8, 0, none⟩ = false := blk_frozen (HS.out.2.2.2.2.2.2) 0; have cv9__g8_1 : v9_.cell? ⟨g8, 1, none⟩ = some (.slice Ar mr cr) := (blk_cell (HS.out.2.2.2.2.2.2) 1).trans rfl; have zv9__g8_1 : v9_.frozen? ⟨g8, 1, none⟩ = false := blk_frozen (HS.out.2.2.2.2.2.2) 1))
    refine bodyPost_ret (results_cell_row rfl _ _ g6 117 #[.bool false, .slice Aq mq cq] (0, 0) _ rfl (by refine blk_put (cs := #[.bool false, .slice none 0 0]) ?_ 1 _ rfl; refine blk_put (cs := #[.bool false, .slice none 0 0]) ?_ 0 _ rfl; exact HS.out.2.2.2.1) Try.underlying117 rfl (by kernel_rfl)) rfl ?_
    refine ⟨_, _, _, rfl, ?_, below_set (below_set (HS.out.1) ge_g6.out) ge_g6.out⟩
    rw [HE.out]
    exact BD.set (b := false) (BD.set (BD.below HQ.out (HS.out.2.2.2.2.1)) (HS.out.2.2.2.1) 0 _) (blk_put (HS.out.2.2.2.1) 0 _ rfl) 1 _
  | false =>
    have hr1 : ¬ a % b = 0 := of_decide_eq_false HZ.out
    have HR1 : Aside0 (0 < a % b) := ⟨by omega⟩
    clear hr1
    go_upto_region 6 with (first
      | ((with_reducible refine gate_callee (f := 116) rfl ?_); (try (refine gate_guard (by rfl) ?_; dsimp only)); refine goesL_ (some 24) rfl rfl Try.func116 (by kernel_rfl) rfl #[.agg #[.bool false, .slice Ar mr cr]] rfl (by (try simp only [List.map_toArray, List.map_cons, List.map_nil]); first | done | rfl) ?_; (with_reducible refine (big_zero0 HZ.out (BD.below HR.out (HS.out.2.2.2.2.1))).mono ?_); rintro e v9_ ⟨rfl, hb⟩; refine ⟨_, rfl, ?_⟩; have HT : Aside0 (Below w.heap.size w v9_ ∧ v9_.heap[g3]? = some (.cells #[.bool false, .slice A m c] 117 (0, 0)) ∧ v9_.heap[g4]? = some (.cells #[.bool false, .slice A2 m2 c2] 117 (0, 0)) ∧ v9_.heap[g6]? = some (.cells #[.bool false, .slice none 0 0] 117 (0, 0)) ∧ Below v4_.heap.size v4_ v9_ ∧ v9_.heap[g7]? = some (.cells #[.bool false, .slice Aq mq cq] 117 (0, 0)) ∧ v9_.heap[g8]? = some (.cells #[.bool false, .slice Ar mr cr] 117 (0, 0))) := ⟨⟨below_step HS.out.1 hb, blk_below HS.out.2.1 hb, blk_below HS.out.2.2.1 hb, blk_below HS.out.2.2.2.1 hb, below_step HS.out.2.2.2.2.1 hb, blk_below HS.out.2.2.2.2.2.1 hb, blk_below HS.out.2.2.2.2.2.2 hb⟩⟩; clear HS; have HS := HT; clear HT; have cv9__g4_0 : v9_.cell? ⟨g4, 0, none⟩ = some (.bool false) := (blk_cell (HS.out.2.2.1) 0).trans rfl; have cv9__g4_1 : v9_.cell? ⟨g4, 1, none⟩ = some (.slice A2 m2 c2) := (blk_cell (HS.out.2.2.1) 1).trans rfl; have cv9__g6_0 : v9_.cell? ⟨g6, 0, none⟩ = some (.bool false) := (blk_cell (HS.out.2.2.2.1) 0).trans rfl; have zv9__g6_0 : v9_.frozen? ⟨g6, 0, none⟩ = false := blk_frozen (HS.out.2.2.2.1) 0; have cv9__g6_1 : v9_.cell? ⟨g6, 1, none⟩ = some (.slice none 0 0) := (blk_cell (HS.out.2.2.2.1) 1).trans rfl; have zv9__g6_1 : v9_.frozen? ⟨g6, 1, none⟩ = false := blk_frozen (HS.out.2.2.2.1) 1; have cv9__g7_0 : v9_.cell? ⟨g7, 0, none⟩ = some (.bool false) := (blk_cell (HS.out.2.2.2.2.2.1) 0).trans rfl; have zv9__g7_0 : v9_.frozen? ⟨g7, 0, none⟩ = false := blk_frozen (HS.out.2.2.2.2.2.1) 0; have cv9__g7_1 : v9_.cell? ⟨g7, 1, none⟩ = some (.slice Aq mq cq) := (blk_cell (HS.out.2.2.2.2.2.1) 1).trans rfl; have zv9__g7_1 : v9_.frozen? ⟨g7, 1, none⟩ = false := blk_frozen (HS.out.2.2.2.2.2.1) 1; have cv9__g8_0 : v9_.cell? ⟨g8, 0, none⟩ = some (.bool false) := (blk_cell (HS.out.2.2.2.2.2.2) 0).trans rfl; have zv9__g8_0 : v9_.frozen? ⟨g8, 0, none⟩ = false := blk_frozen (HS.out.2.2.2.2.2.2) 0; have cv9__g8_1 : v9_.cell? ⟨g8, 1, none⟩ = some (.slice Ar mr cr) := (blk_cell (HS.out.2.2.2.2.2.2) 1).trans rfl; have zv9__g8_1 : v9_.frozen? ⟨g8, 1, none⟩ = false := blk_frozen (HS.out.2.2.2.2.2.2) 1))
    have HT : Aside0 (Below w.heap.size w v9_.drew ∧ v9_.drew.heap[g3]? = some (.cells #[.bool false, .slice A m c] 117 (0, 0)) ∧ v9_.drew.heap[g4]? = some (.cells #[.bool false, .slice A2 m2 c2] 117 (0, 0)) ∧ v9_.drew.heap[g6]? = some (.cells #[.bool false, .slice none 0 0] 117 (0, 0)) ∧ Below v4_.heap.size v4_ v9_.drew ∧ v9_.drew.heap[g7]? = some (.cells #[.bool false, .slice Aq mq cq] 117 (0, 0)) ∧ v9_.drew.heap[g8]? = some (.cells #[.bool false, .slice Ar mr cr] 117 (0, 0))) := ⟨⟨below_drew1 (HS.out.1), blk_drew (HS.out.2.1), blk_drew (HS.out.2.2.1), blk_drew (HS.out.2.2.2.1), below_drew1 (HS.out.2.2.2.2.1), blk_drew (HS.out.2.2.2.2.2.1), blk_drew (HS.out.2.2.2.2.2.2)⟩⟩
    clear HS
    have HS := HT
    clear HT
    refine start_ (n := 6) (S := (fun W_ => W_.cell? ⟨g8, 0, none⟩ = some (.bool false) ∧ W_.cell? ⟨g8, 1, none⟩ = some (.slice Ar mr cr) ∧ W_.cell? ⟨g4, 0, none⟩ = some (.bool false) ∧ W_.cell? ⟨g4, 1, none⟩ = some (.slice A2 m2 c2))) (ds := []) #[false, false, false, false, false, false] (by kernel_rfl) rfl rfl (⟨(blk_cell (HS.out.2.2.2.2.2.2) 0).trans rfl, (blk_cell (HS.out.2.2.2.2.2.2) 1).trans rfl, (blk_cell (HS.out.2.2.1) 0).trans rfl, (blk_cell (HS.out.2.2.1) 1).trans rfl⟩) (fun hHeld => ?_)
    generalize v9_.drew = v10_ at HS hHeld ⊢
    refine take_ (i := 0) (N := some 26) (v := ?_) (a' := ?_) #[true, false, false, false, false, false] rfl rfl (by kernel_rfl) (fun _ _ _ h => h) (Or.inl ⟨by rfl, ?_⟩) hHeld ?_ ?_
    rotate_left
    · rintro w' ⟨s0, s1, s2, s3⟩
      go_simp
      with_reducible rfl
    rotate_left
    · simp only [Act.put, List.setIfInBounds_toArray, List.set_cons_zero, List.set_cons_succ, i64_w, i32_w]
      rfl
    refine take_ (i := 1) (N := some 27) (v := ?_) (a' := ?_) #[true, true, false, false, false, false] rfl rfl (by kernel_rfl) (fun _ _ _ h => h) (Or.inl ⟨by rfl, ?_⟩) hHeld ?_ ?_
    rotate_left
    · rintro w' ⟨s0, s1, s2, s3⟩
      go_simp
      with_reducible rfl
    rotate_left
    · simp only [Act.put, List.setIfInBounds_toArray, List.set_cons_zero, List.set_cons_succ, i64_w, i32_w]
      rfl
    refine take_ (i := 3) (N := some 29) (v := ?_) (a' := ?_) #[true, true, false, true, false, false] rfl rfl (by kernel_rfl) (fun _ _ _ h => h) (Or.inl ⟨by rfl, ?_⟩) hHeld ?_ ?_
    rotate_left
    · rintro w' ⟨s0, s1, s2, s3⟩
      go_simp
      with_reducible rfl
    rotate_left
    · simp only [Act.put, List.setIfInBounds_toArray, List.set_cons_zero, List.set_cons_succ, i64_w, i32_w]
      rfl
    refine one_ (i := 2) (N := some 28) #[true, true, true, true, false, false] rfl rfl (by kernel_rfl) (by decide) (fun K hK => ?_)
    refine goes_ Try.func118 (by kernel_rfl) rfl #[.agg #[.bool false, .slice Ar mr cr], .agg #[.bool false, .slice Ar mr cr]] (by rfl) rfl rfl (by (try simp only [List.map_toArray, List.map_cons, List.map_nil]); first | done | rfl) ?_
    with_reducible refine (big_plus0 (BD.below HR.out (HS.out.2.2.2.2.1)) (BD.below HR.out (HS.out.2.2.2.2.1)) HSR.out HSR.out).mono ?_
    rintro e v11_ ⟨Ah, mh, ch, rfl, hh_, hb⟩
    refine ⟨_, rfl, ?_⟩
    have HH := Aside0.mk hh_
    clear hh_
    have HT : Aside0 (Below w.heap.size w v11_ ∧ v11_.heap[g3]? = some (.cells #[.bool false, .slice A m c] 117 (0, 0)) ∧ v11_.heap[g4]? = some (.cells #[.bool false, .slice A2 m2 c2] 117 (0, 0)) ∧ v11_.heap[g6]? = some (.cells #[.bool false, .slice none 0 0] 117 (0, 0)) ∧ Below v4_.heap.size v4_ v11_ ∧ v11_.heap[g7]? = some (.cells #[.bool false, .slice Aq mq cq] 117 (0, 0)) ∧ v11_.heap[g8]? = some (.cells #[.bool false, .slice Ar mr cr] 117 (0, 0))) := ⟨⟨below_step HS.out.1 hb, blk_below HS.out.2.1 hb, blk_below HS.out.2.2.1 hb, blk_below HS.out.2.2.2.1 hb, below_step HS.out.2.2.2.2.1 hb, blk_below HS.out.2.2.2.2.2.1 hb, blk_below HS.out.2.2.2.2.2.2 hb⟩⟩
    clear HS
    have HS := HT
    clear HT
    refine hK.out _ _ (⟨(blk_cell (HS.out.2.2.2.2.2.2) 0).trans rfl, (blk_cell (HS.out.2.2.2.2.2.2) 1).trans rfl, (blk_cell (HS.out.2.2.1) 0).trans rfl, (blk_cell (HS.out.2.2.1) 1).trans rfl⟩) (fun hHeld => ?_)
    clear hK K
    refine norm_ (a' := ?_) ?_ ?_
    rotate_left
    · show Act.put _ (some 28) _ = _
      simp only [Act.put, List.setIfInBounds_toArray, List.set_cons_zero, List.set_cons_succ, i64_w, i32_w]
      rfl
    refine one_ (i := 4) (N := some 30) #[true, true, true, true, true, false] rfl rfl (by kernel_rfl) (by decide) (fun K hK => ?_)
    refine goes_ Try.func117 (by kernel_rfl) rfl #[.agg #[.bool false, .slice Ah mh ch], .agg #[.bool false, .slice A2 m2 c2]] (by rfl) rfl rfl (by (try simp only [List.map_toArray, List.map_cons, List.map_nil]); first | done | rfl) ?_
    with_reducible refine (big_compare0 HC.out HH.out (BD.below HV.out (HS.out.1)) HSS.out HBB.out).mono ?_
    rintro e v12_ ⟨rfl, hb⟩
    refine ⟨_, rfl, ?_⟩
    have HT : Aside0 (Below w.heap.size w v12_ ∧ v12_.heap[g3]? = some (.cells #[.bool false, .slice A m c] 117 (0, 0)) ∧ v12_.heap[g4]? = some (.cells #[.bool false, .slice A2 m2 c2] 117 (0, 0)) ∧ v12_.heap[g6]? = some (.cells #[.bool false, .slice none 0 0] 117 (0, 0)) ∧ Below v4_.heap.size v4_ v12_ ∧ v12_.heap[g7]? = some (.cells #[.bool false, .slice Aq mq cq] 117 (0, 0)) ∧ v12_.heap[g8]? = some (.cells #[.bool false, .slice Ar mr cr] 117 (0, 0))) := ⟨⟨below_step HS.out.1 hb, blk_below HS.out.2.1 hb, blk_below HS.out.2.2.1 hb, blk_below HS.out.2.2.2.1 hb, below_step HS.out.2.2.2.2.1 hb, blk_below HS.out.2.2.2.2.2.1 hb, blk_below HS.out.2.2.2.2.2.2 hb⟩⟩
    clear HS
    have HS := HT
    clear HT
    refine hK.out _ _ (⟨(blk_cell (HS.out.2.2.2.2.2.2) 0).trans rfl, (blk_cell (HS.out.2.2.2.2.2.2) 1).trans rfl, (blk_cell (HS.out.2.2.1) 0).trans rfl, (blk_cell (HS.out.2.2.1) 1).trans rfl⟩) (fun hHeld => ?_)
    clear hK K
    refine norm_ (a' := ?_) ?_ ?_
    rotate_left
    · show Act.put _ (some 30) _ = _
      simp only [Act.put, List.setIfInBounds_toArray, List.set_cons_zero, List.set_cons_succ, i64_w, i32_w]
      rfl
    refine pure_ (i := 5) (N := some 9) (v := ?_) (a' := ?_) #[true, true, true, true, true, true] rfl rfl (by kernel_rfl) (fun _ _ _ h => h) (Or.inl ⟨by rfl, ?_⟩) ?_ ?_
    rotate_left
    · intro w'
      go_simp
      with_reducible rfl
    rotate_left
    · simp only [Act.put, List.setIfInBounds_toArray, List.set_cons_zero, List.set_cons_succ, i64_w, i32_w]
      rfl
    refine done_ (by kernel_rfl) ?_
    have cv12__g4_0 : v12_.cell? ⟨g4, 0, none⟩ = some (.bool false) := (blk_cell (HS.out.2.2.1) 0).trans rfl
    have cv12__g4_1 : v12_.cell? ⟨g4, 1, none⟩ = some (.slice A2 m2 c2) := (blk_cell (HS.out.2.2.1) 1).trans rfl
    have cv12__g6_0 : v12_.cell? ⟨g6, 0, none⟩ = some (.bool false) := (blk_cell (HS.out.2.2.2.1) 0).trans rfl
    have zv12__g6_0 : v12_.frozen? ⟨g6, 0, none⟩ = false := blk_frozen (HS.out.2.2.2.1) 0
    have cv12__g6_1 : v12_.cell? ⟨g6, 1, none⟩ = some (.slice none 0 0) := (blk_cell (HS.out.2.2.2.1) 1).trans rfl
    have zv12__g6_1 : v12_.frozen? ⟨g6, 1, none⟩ = false := blk_frozen (HS.out.2.2.2.1) 1
    have cv12__g7_0 : v12_.cell? ⟨g7, 0, none⟩ = some (.bool false) := (blk_cell (HS.out.2.2.2.2.2.1) 0).trans rfl
    have zv12__g7_0 : v12_.frozen? ⟨g7, 0, none⟩ = false := blk_frozen (HS.out.2.2.2.2.2.1) 0
    have cv12__g7_1 : v12_.cell? ⟨g7, 1, none⟩ = some (.slice Aq mq cq) := (blk_cell (HS.out.2.2.2.2.2.1) 1).trans rfl
    have zv12__g7_1 : v12_.frozen? ⟨g7, 1, none⟩ = false := blk_frozen (HS.out.2.2.2.2.2.1) 1
    have cv12__g8_0 : v12_.cell? ⟨g8, 0, none⟩ = some (.bool false) := (blk_cell (HS.out.2.2.2.2.2.2) 0).trans rfl
    have zv12__g8_0 : v12_.frozen? ⟨g8, 0, none⟩ = false := blk_frozen (HS.out.2.2.2.2.2.2) 0
    have cv12__g8_1 : v12_.cell? ⟨g8, 1, none⟩ = some (.slice Ar mr cr) := (blk_cell (HS.out.2.2.2.2.2.2) 1).trans rfl
    have zv12__g8_1 : v12_.frozen? ⟨g8, 1, none⟩ = false := blk_frozen (HS.out.2.2.2.2.2.2) 1
    have hC := HC.out
    have hr1 := HR1.out
    clear HC HR1
    unfold sg at hC
    by_cases h2 : b < a % b + a % b
    · obtain rfl : s = 1 := by rw [← hC, if_neg (by omega), if_pos h2]
      have HE : Aside0 (evenN a b = a / b + Int.toNat 1) := ⟨by unfold evenN; rw [if_neg (by omega), if_pos (.inl h2)]; rfl⟩
      clear h2 hr1 hC
      go_upto_region 18 with fail
      have HT : Aside0 (Below w.heap.size w v12_.drew ∧ v12_.drew.heap[g3]? = some (.cells #[.bool false, .slice A m c] 117 (0, 0)) ∧ v12_.drew.heap[g4]? = some (.cells #[.bool false, .slice A2 m2 c2] 117 (0, 0)) ∧ v12_.drew.heap[g6]? = some (.cells #[.bool false, .slice none 0 0] 117 (0, 0)) ∧ Below v4_.heap.size v4_ v12_.drew ∧ v12_.drew.heap[g7]? = some (.cells #[.bool false, .slice Aq mq cq] 117 (0, 0)) ∧ v12_.drew.heap[g8]? = some (.cells #[.bool false, .slice Ar mr cr] 117 (0, 0))) := ⟨⟨below_drew1 (HS.out.1), blk_drew (HS.out.2.1), blk_drew (HS.out.2.2.1), blk_drew (HS.out.2.2.2.1), below_drew1 (HS.out.2.2.2.2.1), blk_drew (HS.out.2.2.2.2.2.1), blk_drew (HS.out.2.2.2.2.2.2)⟩⟩
      clear HS
      have HS := HT
      clear HT
      refine start_ (n := 4) (S := (fun W_ => W_.cell? ⟨g7, 0, none⟩ = some (.bool false) ∧ W_.cell? ⟨g7, 1, none⟩ = some (.slice Aq mq cq))) (ds := [3]) #[false, false, false, false] (by kernel_rfl) rfl rfl (⟨(blk_cell (HS.out.2.2.2.2.2.1) 0).trans rfl, (blk_cell (HS.out.2.2.2.2.2.1) 1).trans rfl⟩) (fun hHeld => ?_)
      generalize v12_.drew = v13_ at HS hHeld ⊢
      refine take_ (i := 0) (N := some 65) (v := ?_) (a' := ?_) #[true, false, false, false] rfl rfl (by kernel_rfl) (fun _ _ _ h => h) (Or.inl ⟨by rfl, ?_⟩) hHeld ?_ ?_
      rotate_left
      · rintro w' ⟨s0, s1⟩
        go_simp
        with_reducible rfl
      rotate_left
      · simp only [Act.put, List.setIfInBounds_toArray, List.set_cons_zero, List.set_cons_succ, i64_w, i32_w]
        rfl
      refine one_ (i := 1) (N := some 66) #[true, true, false, false] rfl rfl (by kernel_rfl) (by decide) (fun K hK => ?_)
      refine goes_ Try.func74 (by kernel_rfl) rfl #[.int .i64 1] (by rfl) rfl rfl (by (try simp only [List.map_toArray, List.map_cons, List.map_nil]); first | done | rfl) ?_
      with_reducible refine (big_of0 (x := 1) (by decide) (by decide) _).mono ?_
      rintro e v14_ ⟨Ao, mo, co, rfl, ho_, hb⟩
      refine ⟨_, rfl, ?_⟩
      have HO := Aside0.mk ho_
      clear ho_
      have HT : Aside0 (Below w.heap.size w v14_ ∧ v14_.heap[g3]? = some (.cells #[.bool false, .slice A m c] 117 (0, 0)) ∧ v14_.heap[g4]? = some (.cells #[.bool false, .slice A2 m2 c2] 117 (0, 0)) ∧ v14_.heap[g6]? = some (.cells #[.bool false, .slice none 0 0] 117 (0, 0)) ∧ Below v4_.heap.size v4_ v14_ ∧ v14_.heap[g7]? = some (.cells #[.bool false, .slice Aq mq cq] 117 (0, 0)) ∧ v14_.heap[g8]? = some (.cells #[.bool false, .slice Ar mr cr] 117 (0, 0))) := ⟨⟨below_step HS.out.1 hb, blk_below HS.out.2.1 hb, blk_below HS.out.2.2.1 hb, blk_below HS.out.2.2.2.1 hb, below_step HS.out.2.2.2.2.1 hb, blk_below HS.out.2.2.2.2.2.1 hb, blk_below HS.out.2.2.2.2.2.2 hb⟩⟩
      clear HS
      have HS := HT
      clear HT
      refine hK.out _ _ (⟨(blk_cell (HS.out.2.2.2.2.2.1) 0).trans rfl, (blk_cell (HS.out.2.2.2.2.2.1) 1).trans rfl⟩) (fun hHeld => ?_)
      clear hK K
      refine norm_ (a' := ?_) ?_ ?_
      rotate_left
      · show Act.put _ (some 66) _ = _
        simp only [Act.put, List.setIfInBounds_toArray, List.set_cons_zero, List.set_cons_succ, i64_w, i32_w]
        rfl
      refine one_ (i := 2) (N := some 67) #[true, true, true, false] rfl rfl (by kernel_rfl) (by decide) (fun K hK => ?_)
      refine goes_ Try.func118 (by kernel_rfl) rfl #[.agg #[.bool false, .slice Aq mq cq], .agg #[.bool false, .slice Ao mo co]] (by rfl) rfl rfl (by (try simp only [List.map_toArray, List.map_cons, List.map_nil]); first | done | rfl) ?_
      with_reducible refine (big_plus0 (BD.below HQ.out (HS.out.2.2.2.2.1)) HO.out HSQ.out HS1.out).mono ?_
      rintro e v15_ ⟨Ap, mp, cp, rfl, hp_, hb⟩
      refine ⟨_, rfl, ?_⟩
      have HP := Aside0.mk hp_
      clear hp_
      have HT : Aside0 (Below w.heap.size w v15_ ∧ v15_.heap[g3]? = some (.cells #[.bool false, .slice A m c] 117 (0, 0)) ∧ v15_.heap[g4]? = some (.cells #[.bool false, .slice A2 m2 c2] 117 (0, 0)) ∧ v15_.heap[g6]? = some (.cells #[.bool false, .slice none 0 0] 117 (0, 0)) ∧ Below v4_.heap.size v4_ v15_ ∧ v15_.heap[g7]? = some (.cells #[.bool false, .slice Aq mq cq] 117 (0, 0)) ∧ v15_.heap[g8]? = some (.cells #[.bool false, .slice Ar mr cr] 117 (0, 0))) := ⟨⟨below_step HS.out.1 hb, blk_below HS.out.2.1 hb, blk_below HS.out.2.2.1 hb, blk_below HS.out.2.2.2.1 hb, below_step HS.out.2.2.2.2.1 hb, blk_below HS.out.2.2.2.2.2.1 hb, blk_below HS.out.2.2.2.2.2.2 hb⟩⟩
      clear HS
      have HS := HT
      clear HT
      refine hK.out _ _ (⟨(blk_cell (HS.out.2.2.2.2.2.1) 0).trans rfl, (blk_cell (HS.out.2.2.2.2.2.1) 1).trans rfl⟩) (fun hHeld => ?_)
      clear hK K
      refine norm_ (a' := ?_) ?_ ?_
      rotate_left
      · show Act.put _ (some 67) _ = _
        simp only [Act.put, List.setIfInBounds_toArray, List.set_cons_zero, List.set_cons_succ, i64_w, i32_w]
        rfl
      refine last_ (i := 3) (N := none) #[true, true, true, true] rfl rfl (by kernel_rfl) (by decide) (fun K hK => ?_)
      have cv15__g4_0 : v15_.cell? ⟨g4, 0, none⟩ = some (.bool false) := (blk_cell (HS.out.2.2.1) 0).trans rfl
      have cv15__g4_1 : v15_.cell? ⟨g4, 1, none⟩ = some (.slice A2 m2 c2) := (blk_cell (HS.out.2.2.1) 1).trans rfl
      have cv15__g6_0 : v15_.cell? ⟨g6, 0, none⟩ = some (.bool false) := (blk_cell (HS.out.2.2.2.1) 0).trans rfl
      have zv15__g6_0 : v15_.frozen? ⟨g6, 0, none⟩ = false := blk_frozen (HS.out.2.2.2.1) 0
      have cv15__g6_1 : v15_.cell? ⟨g6, 1, none⟩ = some (.slice none 0 0) := (blk_cell (HS.out.2.2.2.1) 1).trans rfl
      have zv15__g6_1 : v15_.frozen? ⟨g6, 1, none⟩ = false := blk_frozen (HS.out.2.2.2.1) 1
      have cv15__g7_0 : v15_.cell? ⟨g7, 0, none⟩ = some (.bool false) := (blk_cell (HS.out.2.2.2.2.2.1) 0).trans rfl
      have zv15__g7_0 : v15_.frozen? ⟨g7, 0, none⟩ = false := blk_frozen (HS.out.2.2.2.2.2.1) 0
      have cv15__g7_1 : v15_.cell? ⟨g7, 1, none⟩ = some (.slice Aq mq cq) := (blk_cell (HS.out.2.2.2.2.2.1) 1).trans rfl
      have zv15__g7_1 : v15_.frozen? ⟨g7, 1, none⟩ = false := blk_frozen (HS.out.2.2.2.2.2.1) 1
      have cv15__g8_0 : v15_.cell? ⟨g8, 0, none⟩ = some (.bool false) := (blk_cell (HS.out.2.2.2.2.2.2) 0).trans rfl
      have zv15__g8_0 : v15_.frozen? ⟨g8, 0, none⟩ = false := blk_frozen (HS.out.2.2.2.2.2.2) 0
      have cv15__g8_1 : v15_.cell? ⟨g8, 1, none⟩ = some (.slice Ar mr cr) := (blk_cell (HS.out.2.2.2.2.2.2) 1).trans rfl
      have zv15__g8_1 : v15_.frozen? ⟨g8, 1, none⟩ = false := blk_frozen (HS.out.2.2.2.2.2.2) 1
      refine skip_ (w1 := ?_) (by rfl) rfl ?_ ?_
      rotate_left
      · go_simp
        rfl
      refine hK.out _ _ ?_
      clear hK K
      refine done_ (by kernel_rfl) ?_
      have HP2 := Aside0.mk (BD.set (b := false) (BD.set (b := false) HP.out (HS.out.2.2.2.2.2.1) 0 (.bool false)) (blk_put (HS.out.2.2.2.2.2.1) 0 (.bool false) rfl) 1 (.slice Ap mp cp))
      obtain ⟨v16_, hw_v16_⟩ : ∃ z_, z_ = ((v15_).setCell ⟨g7, 0, none⟩ (.bool false)).setCell ⟨g7, 1, none⟩ (.slice Ap mp cp) := ⟨_, rfl⟩
      have HT : Aside0 (Below w.heap.size w v16_ ∧ v16_.heap[g3]? = some (.cells #[.bool false, .slice A m c] 117 (0, 0)) ∧ v16_.heap[g4]? = some (.cells #[.bool false, .slice A2 m2 c2] 117 (0, 0)) ∧ v16_.heap[g6]? = some (.cells #[.bool false, .slice none 0 0] 117 (0, 0)) ∧ Below v4_.heap.size v4_ v16_ ∧ v16_.heap[g7]? = some (.cells #[.bool false, .slice Ap mp cp] 117 (0, 0)) ∧ v16_.heap[g8]? = some (.cells #[.bool false, .slice Ar mr cr] 117 (0, 0))) := ⟨hw_v16_ ▸ ⟨below_set (below_set (HS.out.1) (ge_g7.out)) (ge_g7.out), blk_far (blk_far (HS.out.2.1) ne_g3_g7 (.bool false)) ne_g3_g7 (.slice Ap mp cp), blk_far (blk_far (HS.out.2.2.1) ne_g4_g7 (.bool false)) ne_g4_g7 (.slice Ap mp cp), blk_far (blk_far (HS.out.2.2.2.1) ne_g6_g7 (.bool false)) ne_g6_g7 (.slice Ap mp cp), below_set (below_set (HS.out.2.2.2.2.1) (gx_v4__g7.out)) (gx_v4__g7.out), blk_put (blk_put (HS.out.2.2.2.2.2.1) 0 (.bool false) (cs' := #[.bool false, .slice Aq mq cq]) rfl) 1 (.slice Ap mp cp) (cs' := #[.bool false, .slice Ap mp cp]) rfl, blk_far (blk_far (HS.out.2.2.2.2.2.2) ne_g8_g7 (.bool false)) ne_g8_g7 (.slice Ap mp cp)⟩⟩
      clear HS
      have HS := HT
      clear HT
      rw [← hw_v16_]
      rw [← hw_v16_] at HP2
      clear hw_v16_
      have cv16__g4_0 : v16_.cell? ⟨g4, 0, none⟩ = some (.bool false) := (blk_cell (HS.out.2.2.1) 0).trans rfl
      have cv16__g4_1 : v16_.cell? ⟨g4, 1, none⟩ = some (.slice A2 m2 c2) := (blk_cell (HS.out.2.2.1) 1).trans rfl
      have cv16__g6_0 : v16_.cell? ⟨g6, 0, none⟩ = some (.bool false) := (blk_cell (HS.out.2.2.2.1) 0).trans rfl
      have zv16__g6_0 : v16_.frozen? ⟨g6, 0, none⟩ = false := blk_frozen (HS.out.2.2.2.1) 0
      have cv16__g6_1 : v16_.cell? ⟨g6, 1, none⟩ = some (.slice none 0 0) := (blk_cell (HS.out.2.2.2.1) 1).trans rfl
      have zv16__g6_1 : v16_.frozen? ⟨g6, 1, none⟩ = false := blk_frozen (HS.out.2.2.2.1) 1
      have cv16__g7_0 : v16_.cell? ⟨g7, 0, none⟩ = some (.bool false) := (blk_cell (HS.out.2.2.2.2.2.1) 0).trans rfl
      have zv16__g7_0 : v16_.frozen? ⟨g7, 0, none⟩ = false := blk_frozen (HS.out.2.2.2.2.2.1) 0
      have cv16__g7_1 : v16_.cell? ⟨g7, 1, none⟩ = some (.slice Ap mp cp) := (blk_cell (HS.out.2.2.2.2.2.1) 1).trans rfl
      have zv16__g7_1 : v16_.frozen? ⟨g7, 1, none⟩ = false := blk_frozen (HS.out.2.2.2.2.2.1) 1
      have cv16__g8_0 : v16_.cell? ⟨g8, 0, none⟩ = some (.bool false) := (blk_cell (HS.out.2.2.2.2.2.2) 0).trans rfl
      have zv16__g8_0 : v16_.frozen? ⟨g8, 0, none⟩ = false := blk_frozen (HS.out.2.2.2.2.2.2) 0
      have cv16__g8_1 : v16_.cell? ⟨g8, 1, none⟩ = some (.slice Ar mr cr) := (blk_cell (HS.out.2.2.2.2.2.2) 1).trans rfl
      have zv16__g8_1 : v16_.frozen? ⟨g8, 1, none⟩ = false := blk_frozen (HS.out.2.2.2.2.2.2) 1
      go_wp2_with fail
      refine bodyPost_ret (results_cell_row rfl _ _ g6 117 #[.bool false, .slice Ap mp cp] (0, 0) _ rfl (by refine blk_put (cs := #[.bool false, .slice none 0 0]) ?_ 1 _ rfl; refine blk_put (cs := #[.bool false, .slice none 0 0]) ?_ 0 _ rfl; exact HS.out.2.2.2.1) Try.underlying117 rfl (by kernel_rfl)) rfl ?_
      refine ⟨_, _, _, rfl, ?_, below_set (below_set (HS.out.1) ge_g6.out) ge_g6.out⟩
      rw [HE.out]
      exact BD.set (b := false) (BD.set HP2.out (HS.out.2.2.2.1) 0 _) (blk_put (HS.out.2.2.2.1) 0 _ rfl) 1 _
    by_cases h3 : a % b + a % b < b
    · obtain rfl : s = -1 := by rw [← hC, if_pos h3]
      have HE : Aside0 (evenN a b = a / b) := ⟨by unfold evenN; rw [if_neg (by omega), if_neg (by omega)]⟩
      clear h2 h3 hr1 hC
      go_wp2_with fail
      refine bodyPost_ret (results_cell_row rfl _ _ g6 117 #[.bool false, .slice Aq mq cq] (0, 0) _ rfl (by refine blk_put (cs := #[.bool false, .slice none 0 0]) ?_ 1 _ rfl; refine blk_put (cs := #[.bool false, .slice none 0 0]) ?_ 0 _ rfl; exact HS.out.2.2.2.1) Try.underlying117 rfl (by kernel_rfl)) rfl ?_
      refine ⟨_, _, _, rfl, ?_, below_set (below_set (HS.out.1) ge_g6.out) ge_g6.out⟩
      rw [HE.out]
      exact BD.set (b := false) (BD.set (BD.below HQ.out (HS.out.2.2.2.2.1)) (HS.out.2.2.2.1) 0 _) (blk_put (HS.out.2.2.2.1) 0 _ rfl) 1 _
    have h4 : a % b + a % b = b := by omega
    obtain rfl : s = 0 := by rw [← hC, if_neg h3, if_neg h2]
    clear hC
    have hq4 := BD.first (BD.below HQ.out (HS.out.2.2.2.2.1))
    by_cases h5 : a / b = 0
    · have hm0 : mq = 0 := hq4.1 h5
      have HE : Aside0 (evenN a b = a / b) := ⟨by unfold evenN; rw [if_neg (by omega), if_neg (by omega)]⟩
      have hm2 : decide ((mq : Int) > 0) = false := decide_eq_false (by omega)
      have hm3 : decide ((0 : Int) < (mq : Int)) = false := decide_eq_false (by omega)
      have hm4 : ¬ (0 : Int) < (mq : Int) := by omega
      clear hm0 h2 h3 h4 hr1 h5 hq4
      go_wp2_with fail
      refine bodyPost_ret (results_cell_row rfl _ _ g6 117 #[.bool false, .slice Aq mq cq] (0, 0) _ rfl (by refine blk_put (cs := #[.bool false, .slice none 0 0]) ?_ 1 _ rfl; refine blk_put (cs := #[.bool false, .slice none 0 0]) ?_ 0 _ rfl; exact HS.out.2.2.2.1) Try.underlying117 rfl (by kernel_rfl)) rfl ?_
      refine ⟨_, _, _, rfl, ?_, below_set (below_set (HS.out.1) ge_g6.out) ge_g6.out⟩
      rw [HE.out]
      exact BD.set (b := false) (BD.set (BD.below HQ.out (HS.out.2.2.2.2.1)) (HS.out.2.2.2.1) 0 _) (blk_put (HS.out.2.2.2.1) 0 _ rfl) 1 _
    obtain ⟨hm, adq, rfl, hx⟩ := hq4.2 (Nat.pos_of_ne_zero h5)
    clear hq4
    obtain ⟨x, ex⟩ : ∃ z, z = ((a / b % 10000 : Nat) : Int) := ⟨_, rfl⟩
    rw [← ex] at hx
    have hm2 : decide ((mq : Int) > 0) = true := decide_eq_true (by omega)
    have hm3 : decide ((0 : Int) < (mq : Int)) = true := decide_eq_true (by omega)
    have hm4 : (0 : Int) < (mq : Int) := by omega
    by_cases h6 : a / b % 2 = 0
    · have HE : Aside0 (evenN a b = a / b) := ⟨by unfold evenN; rw [if_neg (by omega), if_neg (by omega)]⟩
      have hT : Int.tmod x 2 = 0 := by
        rw [ex, Int.tmod_eq_emod_of_nonneg (by omega)]
        omega
      clear ex h2 h3 h4 hr1 h5 h6
      go_wp2_with fail
      refine bodyPost_ret (results_cell_row rfl _ _ g6 117 #[.bool false, .slice (some adq) mq cq] (0, 0) _ rfl (by refine blk_put (cs := #[.bool false, .slice none 0 0]) ?_ 1 _ rfl; refine blk_put (cs := #[.bool false, .slice none 0 0]) ?_ 0 _ rfl; exact HS.out.2.2.2.1) Try.underlying117 rfl (by kernel_rfl)) rfl ?_
      refine ⟨_, _, _, rfl, ?_, below_set (below_set (HS.out.1) ge_g6.out) ge_g6.out⟩
      rw [HE.out]
      exact BD.set (b := false) (BD.set (BD.below HQ.out (HS.out.2.2.2.2.1)) (HS.out.2.2.2.1) 0 _) (blk_put (HS.out.2.2.2.1) 0 _ rfl) 1 _
    have HE : Aside0 (evenN a b = a / b + Int.toNat 1) := ⟨by unfold evenN; rw [if_neg (by omega), if_pos (.inr ⟨h4, by omega⟩)]; rfl⟩
    have hT : Int.tmod x 2 = 1 := by
      rw [ex, Int.tmod_eq_emod_of_nonneg (by omega)]
      omega
    clear ex h2 h3 h4 hr1 h5 h6
    go_upto_region 18 with fail
    have HT : Aside0 (Below w.heap.size w v12_.drew ∧ v12_.drew.heap[g3]? = some (.cells #[.bool false, .slice A m c] 117 (0, 0)) ∧ v12_.drew.heap[g4]? = some (.cells #[.bool false, .slice A2 m2 c2] 117 (0, 0)) ∧ v12_.drew.heap[g6]? = some (.cells #[.bool false, .slice none 0 0] 117 (0, 0)) ∧ Below v4_.heap.size v4_ v12_.drew ∧ v12_.drew.heap[g7]? = some (.cells #[.bool false, .slice (some adq) mq cq] 117 (0, 0)) ∧ v12_.drew.heap[g8]? = some (.cells #[.bool false, .slice Ar mr cr] 117 (0, 0))) := ⟨⟨below_drew1 (HS.out.1), blk_drew (HS.out.2.1), blk_drew (HS.out.2.2.1), blk_drew (HS.out.2.2.2.1), below_drew1 (HS.out.2.2.2.2.1), blk_drew (HS.out.2.2.2.2.2.1), blk_drew (HS.out.2.2.2.2.2.2)⟩⟩
    clear HS
    have HS := HT
    clear HT
    refine start_ (n := 4) (S := (fun W_ => W_.cell? ⟨g7, 0, none⟩ = some (.bool false) ∧ W_.cell? ⟨g7, 1, none⟩ = some (.slice (some adq) mq cq))) (ds := [3]) #[false, false, false, false] (by kernel_rfl) rfl rfl (⟨(blk_cell (HS.out.2.2.2.2.2.1) 0).trans rfl, (blk_cell (HS.out.2.2.2.2.2.1) 1).trans rfl⟩) (fun hHeld => ?_)
    generalize v12_.drew = v13_ at HS hHeld ⊢
    refine take_ (i := 0) (N := some 65) (v := ?_) (a' := ?_) #[true, false, false, false] rfl rfl (by kernel_rfl) (fun _ _ _ h => h) (Or.inl ⟨by rfl, ?_⟩) hHeld ?_ ?_
    rotate_left
    · rintro w' ⟨s0, s1⟩
      go_simp
      with_reducible rfl
    rotate_left
    · simp only [Act.put, List.setIfInBounds_toArray, List.set_cons_zero, List.set_cons_succ, i64_w, i32_w]
      rfl
    refine one_ (i := 1) (N := some 66) #[true, true, false, false] rfl rfl (by kernel_rfl) (by decide) (fun K hK => ?_)
    refine goes_ Try.func74 (by kernel_rfl) rfl #[.int .i64 1] (by rfl) rfl rfl (by (try simp only [List.map_toArray, List.map_cons, List.map_nil]); first | done | rfl) ?_
    with_reducible refine (big_of0 (x := 1) (by decide) (by decide) _).mono ?_
    rintro e v14_ ⟨Ao, mo, co, rfl, ho_, hb⟩
    refine ⟨_, rfl, ?_⟩
    have HO := Aside0.mk ho_
    clear ho_
    have HT : Aside0 (Below w.heap.size w v14_ ∧ v14_.heap[g3]? = some (.cells #[.bool false, .slice A m c] 117 (0, 0)) ∧ v14_.heap[g4]? = some (.cells #[.bool false, .slice A2 m2 c2] 117 (0, 0)) ∧ v14_.heap[g6]? = some (.cells #[.bool false, .slice none 0 0] 117 (0, 0)) ∧ Below v4_.heap.size v4_ v14_ ∧ v14_.heap[g7]? = some (.cells #[.bool false, .slice (some adq) mq cq] 117 (0, 0)) ∧ v14_.heap[g8]? = some (.cells #[.bool false, .slice Ar mr cr] 117 (0, 0))) := ⟨⟨below_step HS.out.1 hb, blk_below HS.out.2.1 hb, blk_below HS.out.2.2.1 hb, blk_below HS.out.2.2.2.1 hb, below_step HS.out.2.2.2.2.1 hb, blk_below HS.out.2.2.2.2.2.1 hb, blk_below HS.out.2.2.2.2.2.2 hb⟩⟩
    clear HS
    have HS := HT
    clear HT
    refine hK.out _ _ (⟨(blk_cell (HS.out.2.2.2.2.2.1) 0).trans rfl, (blk_cell (HS.out.2.2.2.2.2.1) 1).trans rfl⟩) (fun hHeld => ?_)
    clear hK K
    refine norm_ (a' := ?_) ?_ ?_
    rotate_left
    · show Act.put _ (some 66) _ = _
      simp only [Act.put, List.setIfInBounds_toArray, List.set_cons_zero, List.set_cons_succ, i64_w, i32_w]
      rfl
    refine one_ (i := 2) (N := some 67) #[true, true, true, false] rfl rfl (by kernel_rfl) (by decide) (fun K hK => ?_)
    refine goes_ Try.func118 (by kernel_rfl) rfl #[.agg #[.bool false, .slice (some adq) mq cq], .agg #[.bool false, .slice Ao mo co]] (by rfl) rfl rfl (by (try simp only [List.map_toArray, List.map_cons, List.map_nil]); first | done | rfl) ?_
    with_reducible refine (big_plus0 (BD.below HQ.out (HS.out.2.2.2.2.1)) HO.out HSQ.out HS1.out).mono ?_
    rintro e v15_ ⟨Ap, mp, cp, rfl, hp_, hb⟩
    refine ⟨_, rfl, ?_⟩
    have HP := Aside0.mk hp_
    clear hp_
    have HT : Aside0 (Below w.heap.size w v15_ ∧ v15_.heap[g3]? = some (.cells #[.bool false, .slice A m c] 117 (0, 0)) ∧ v15_.heap[g4]? = some (.cells #[.bool false, .slice A2 m2 c2] 117 (0, 0)) ∧ v15_.heap[g6]? = some (.cells #[.bool false, .slice none 0 0] 117 (0, 0)) ∧ Below v4_.heap.size v4_ v15_ ∧ v15_.heap[g7]? = some (.cells #[.bool false, .slice (some adq) mq cq] 117 (0, 0)) ∧ v15_.heap[g8]? = some (.cells #[.bool false, .slice Ar mr cr] 117 (0, 0))) := ⟨⟨below_step HS.out.1 hb, blk_below HS.out.2.1 hb, blk_below HS.out.2.2.1 hb, blk_below HS.out.2.2.2.1 hb, below_step HS.out.2.2.2.2.1 hb, blk_below HS.out.2.2.2.2.2.1 hb, blk_below HS.out.2.2.2.2.2.2 hb⟩⟩
    clear HS
    have HS := HT
    clear HT
    refine hK.out _ _ (⟨(blk_cell (HS.out.2.2.2.2.2.1) 0).trans rfl, (blk_cell (HS.out.2.2.2.2.2.1) 1).trans rfl⟩) (fun hHeld => ?_)
    clear hK K
    refine norm_ (a' := ?_) ?_ ?_
    rotate_left
    · show Act.put _ (some 67) _ = _
      simp only [Act.put, List.setIfInBounds_toArray, List.set_cons_zero, List.set_cons_succ, i64_w, i32_w]
      rfl
    refine last_ (i := 3) (N := none) #[true, true, true, true] rfl rfl (by kernel_rfl) (by decide) (fun K hK => ?_)
    have cv15__g4_0 : v15_.cell? ⟨g4, 0, none⟩ = some (.bool false) := (blk_cell (HS.out.2.2.1) 0).trans rfl
    have cv15__g4_1 : v15_.cell? ⟨g4, 1, none⟩ = some (.slice A2 m2 c2) := (blk_cell (HS.out.2.2.1) 1).trans rfl
    have cv15__g6_0 : v15_.cell? ⟨g6, 0, none⟩ = some (.bool false) := (blk_cell (HS.out.2.2.2.1) 0).trans rfl
    have zv15__g6_0 : v15_.frozen? ⟨g6, 0, none⟩ = false := blk_frozen (HS.out.2.2.2.1) 0
    have cv15__g6_1 : v15_.cell? ⟨g6, 1, none⟩ = some (.slice none 0 0) := (blk_cell (HS.out.2.2.2.1) 1).trans rfl
    have zv15__g6_1 : v15_.frozen? ⟨g6, 1, none⟩ = false := blk_frozen (HS.out.2.2.2.1) 1
    have cv15__g7_0 : v15_.cell? ⟨g7, 0, none⟩ = some (.bool false) := (blk_cell (HS.out.2.2.2.2.2.1) 0).trans rfl
    have zv15__g7_0 : v15_.frozen? ⟨g7, 0, none⟩ = false := blk_frozen (HS.out.2.2.2.2.2.1) 0
    have cv15__g7_1 : v15_.cell? ⟨g7, 1, none⟩ = some (.slice (some adq) mq cq) := (blk_cell (HS.out.2.2.2.2.2.1) 1).trans rfl
    have zv15__g7_1 : v15_.frozen? ⟨g7, 1, none⟩ = false := blk_frozen (HS.out.2.2.2.2.2.1) 1
    have cv15__g8_0 : v15_.cell? ⟨g8, 0, none⟩ = some (.bool false) := (blk_cell (HS.out.2.2.2.2.2.2) 0).trans rfl
    have zv15__g8_0 : v15_.frozen? ⟨g8, 0, none⟩ = false := blk_frozen (HS.out.2.2.2.2.2.2) 0
    have cv15__g8_1 : v15_.cell? ⟨g8, 1, none⟩ = some (.slice Ar mr cr) := (blk_cell (HS.out.2.2.2.2.2.2) 1).trans rfl
    have zv15__g8_1 : v15_.frozen? ⟨g8, 1, none⟩ = false := blk_frozen (HS.out.2.2.2.2.2.2) 1
    refine skip_ (w1 := ?_) (by rfl) rfl ?_ ?_
    rotate_left
    · go_simp
      rfl
    refine hK.out _ _ ?_
    clear hK K
    refine done_ (by kernel_rfl) ?_
    have HP2 := Aside0.mk (BD.set (b := false) (BD.set (b := false) HP.out (HS.out.2.2.2.2.2.1) 0 (.bool false)) (blk_put (HS.out.2.2.2.2.2.1) 0 (.bool false) rfl) 1 (.slice Ap mp cp))
    obtain ⟨v16_, hw_v16_⟩ : ∃ z_, z_ = ((v15_).setCell ⟨g7, 0, none⟩ (.bool false)).setCell ⟨g7, 1, none⟩ (.slice Ap mp cp) := ⟨_, rfl⟩
    have HT : Aside0 (Below w.heap.size w v16_ ∧ v16_.heap[g3]? = some (.cells #[.bool false, .slice A m c] 117 (0, 0)) ∧ v16_.heap[g4]? = some (.cells #[.bool false, .slice A2 m2 c2] 117 (0, 0)) ∧ v16_.heap[g6]? = some (.cells #[.bool false, .slice none 0 0] 117 (0, 0)) ∧ Below v4_.heap.size v4_ v16_ ∧ v16_.heap[g7]? = some (.cells #[.bool false, .slice Ap mp cp] 117 (0, 0)) ∧ v16_.heap[g8]? = some (.cells #[.bool false, .slice Ar mr cr] 117 (0, 0))) := ⟨hw_v16_ ▸ ⟨below_set (below_set (HS.out.1) (ge_g7.out)) (ge_g7.out), blk_far (blk_far (HS.out.2.1) ne_g3_g7 (.bool false)) ne_g3_g7 (.slice Ap mp cp), blk_far (blk_far (HS.out.2.2.1) ne_g4_g7 (.bool false)) ne_g4_g7 (.slice Ap mp cp), blk_far (blk_far (HS.out.2.2.2.1) ne_g6_g7 (.bool false)) ne_g6_g7 (.slice Ap mp cp), below_set (below_set (HS.out.2.2.2.2.1) (gx_v4__g7.out)) (gx_v4__g7.out), blk_put (blk_put (HS.out.2.2.2.2.2.1) 0 (.bool false) (cs' := #[.bool false, .slice (some adq) mq cq]) rfl) 1 (.slice Ap mp cp) (cs' := #[.bool false, .slice Ap mp cp]) rfl, blk_far (blk_far (HS.out.2.2.2.2.2.2) ne_g8_g7 (.bool false)) ne_g8_g7 (.slice Ap mp cp)⟩⟩
    clear HS
    have HS := HT
    clear HT
    rw [← hw_v16_]
    rw [← hw_v16_] at HP2
    clear hw_v16_
    have cv16__g4_0 : v16_.cell? ⟨g4, 0, none⟩ = some (.bool false) := (blk_cell (HS.out.2.2.1) 0).trans rfl
    have cv16__g4_1 : v16_.cell? ⟨g4, 1, none⟩ = some (.slice A2 m2 c2) := (blk_cell (HS.out.2.2.1) 1).trans rfl
    have cv16__g6_0 : v16_.cell? ⟨g6, 0, none⟩ = some (.bool false) := (blk_cell (HS.out.2.2.2.1) 0).trans rfl
    have zv16__g6_0 : v16_.frozen? ⟨g6, 0, none⟩ = false := blk_frozen (HS.out.2.2.2.1) 0
    have cv16__g6_1 : v16_.cell? ⟨g6, 1, none⟩ = some (.slice none 0 0) := (blk_cell (HS.out.2.2.2.1) 1).trans rfl
    have zv16__g6_1 : v16_.frozen? ⟨g6, 1, none⟩ = false := blk_frozen (HS.out.2.2.2.1) 1
    have cv16__g7_0 : v16_.cell? ⟨g7, 0, none⟩ = some (.bool false) := (blk_cell (HS.out.2.2.2.2.2.1) 0).trans rfl
    have zv16__g7_0 : v16_.frozen? ⟨g7, 0, none⟩ = false := blk_frozen (HS.out.2.2.2.2.2.1) 0
    have cv16__g7_1 : v16_.cell? ⟨g7, 1, none⟩ = some (.slice Ap mp cp) := (blk_cell (HS.out.2.2.2.2.2.1) 1).trans rfl
    have zv16__g7_1 : v16_.frozen? ⟨g7, 1, none⟩ = false := blk_frozen (HS.out.2.2.2.2.2.1) 1
    have cv16__g8_0 : v16_.cell? ⟨g8, 0, none⟩ = some (.bool false) := (blk_cell (HS.out.2.2.2.2.2.2) 0).trans rfl
    have zv16__g8_0 : v16_.frozen? ⟨g8, 0, none⟩ = false := blk_frozen (HS.out.2.2.2.2.2.2) 0
    have cv16__g8_1 : v16_.cell? ⟨g8, 1, none⟩ = some (.slice Ar mr cr) := (blk_cell (HS.out.2.2.2.2.2.2) 1).trans rfl
    have zv16__g8_1 : v16_.frozen? ⟨g8, 1, none⟩ = false := blk_frozen (HS.out.2.2.2.2.2.2) 1
    go_wp2_with fail
    refine bodyPost_ret (results_cell_row rfl _ _ g6 117 #[.bool false, .slice Ap mp cp] (0, 0) _ rfl (by refine blk_put (cs := #[.bool false, .slice none 0 0]) ?_ 1 _ rfl; refine blk_put (cs := #[.bool false, .slice none 0 0]) ?_ 0 _ rfl; exact HS.out.2.2.2.1) Try.underlying117 rfl (by kernel_rfl)) rfl ?_
    refine ⟨_, _, _, rfl, ?_, below_set (below_set (HS.out.1) ge_g6.out) ge_g6.out⟩
    rw [HE.out]
    exact BD.set (b := false) (BD.set HP2.out (HS.out.2.2.2.1) 0 _) (blk_put (HS.out.2.2.2.1) 0 _ rfl) 1 _
end Go.Proofs.Ythkfahkkcjagdaa
namespace Go.Proofs.Ythkfahkkcjagdaa
open PClassingBases Go.RowKit Go.Proofs.YthkfahkkcjagdaaW.PrintWords Go.Proofs.YthkfahkkcjagdaaW.PrintMore Go.Proofs.YthkfahkkcjagdaaW.PrintLast

theorem u64_id {n : Int} (h0 : 0 ≤ n) (h1 : n ≤ 18446744073709551615) : IntKind.u64.wrap n = n := IntWalk.u64_in n ⟨h0, h1⟩
theorem gcdI_ev : ∀ (b a : Nat), Ev (fun k => num_gcd.l0 k (a : Int) (b : Int)) ((Nat.gcd a b : Nat) : Int) := by
  intro b
  induction b using Nat.strongRecOn with
  | _ b ih =>
    intro a
    by_cases h0 : b = 0
    · subst h0
      rw [Nat.gcd_zero_right]
      exact Ev.step (f := fun _ => some (a : Int)) (fun k => by simp only [num_gcd.l0]; rw [if_pos (by omega)]) (Ev.now _)
    · have hpos : 0 < b := by omega
      have h1 := ih (a % b) (Nat.mod_lt _ hpos) b
      have e : Nat.gcd a b = Nat.gcd b (a % b) := by rw [Nat.gcd_comm a b, Nat.gcd_rec b a, Nat.gcd_comm]
      rw [e]
      refine Ev.step (f := fun k => num_gcd.l0 k (b : Int) ((a % b : Nat) : Int)) (fun k => ?_) h1
      simp only [num_gcd.l0]
      rw [if_neg (by omega)]
      rfl
theorem made_ev {a b : Nat} (h0 : 0 < b) (ha : (a : Int) ≤ 1000000) (hb : (b : Int) ≤ 1000000) : Ev (fun k => num_made.f k false (a : Int) (b : Int)) (((a / Nat.gcd a b : Nat) : Int), ((b / Nat.gcd a b : Nat) : Int), 0) := by
  have hg := Nat.gcd_pos_of_pos_right a h0
  have h1 := gcdI_ev b a
  generalize Nat.gcd a b = g at *
  have q1 : a / g ≤ a := Nat.div_le_self _ _
  have q2 : b / g ≤ b := Nat.div_le_self _ _
  have e1 : Int.tdiv (a : Int) (g : Int) = ((a / g : Nat) : Int) := rfl
  have e2 : Int.tdiv (b : Int) (g : Int) = ((b / g : Nat) : Int) := rfl
  generalize a / g = p at *
  generalize b / g = q at *
  refine Ev.bind h1 (Ev.congr (f := fun k => num_made.j0 k false (p : Int) (q : Int) false) (fun k => ?_) ?_)
  · rw [if_neg (by omega), e1, e2, u64_id (n := (p : Int)) (by omega) (by omega), u64_id (n := (q : Int)) (by omega) (by omega), if_neg (by omega), decide_eq_false (by omega)]
  · refine Ev.step (f := fun _ => some ((p : Int), (q : Int), 0)) (fun k => ?_) (Ev.now _)
    simp only [num_made.j0]
    rw [if_neg (by decide), if_neg (by decide), wrap_id (x := (p : Int)) (by omega) (by omega), wrap_id (x := (q : Int)) (by omega) (by omega)]
theorem make_ev {a b : Nat} (h0 : 0 < b) (ha : (a : Int) ≤ 1000000) (hb : (b : Int) ≤ 1000000) : Ev (fun k => num_Make.f k (a : Int) (b : Int)) (((a / Nat.gcd a b : Nat) : Int), ((b / Nat.gcd a b : Nat) : Int), 0) := by
  refine Ev.congr (f := fun k => (num_made.f k false (a : Int) (b : Int)).bind fun bt => some (bt.1, bt.2.1, bt.2.2)) (fun k => ?_) (Ev.bind (made_ev h0 ha hb) (Ev.now _))
  unfold num_Make.f num_size.f
  rw [if_neg (by omega), if_neg (by omega), if_neg (by omega), u64_id (n := (a : Int)) (by omega) (by omega), u64_id (n := (b : Int)) (by omega) (by omega), decide_eq_false (by omega), decide_eq_false (by omega)]
  rfl
/-- Is this a subsample? -/
def vsub (r d a g v : Int) : Bool := decide (1 ≤ r ∧ r ≤ 10000 ∧ 0 ≤ d ∧ d ≤ r ∧ 0 ≤ a ∧ 0 ≤ g ∧ 0 ≤ v ∧ a + g + v ≤ d)
theorem some_eq {α : Type} {x y : α} (h : x = y) : some x = some y := by rw [h]
theorem subm_ev (r d a g v : Int) : Ev (fun k => classing_sub.f k r d a g v) (vsub r d a g v) := by
  unfold vsub
  by_cases h1 : r < 1
  · refine Ev.congr (f := fun k => classing_sub.j0 k true r d a g v) (fun k => by unfold classing_sub.f; rw [if_pos h1]) (Ev.step (f := fun _ => some false) (fun k => rfl) ?_)
    rw [decide_eq_false (by omega)]; exact Ev.now _
  by_cases h2 : r > 10000
  · refine Ev.congr (f := fun k => classing_sub.j0 k true r d a g v) (fun k => by unfold classing_sub.f; rw [if_neg h1, if_pos h2]) (Ev.step (f := fun _ => some false) (fun k => rfl) ?_)
    rw [decide_eq_false (by omega)]; exact Ev.now _
  by_cases h3 : d < 0
  · refine Ev.congr (f := fun k => classing_sub.j0 k true r d a g v) (fun k => by unfold classing_sub.f; rw [if_neg h1, if_neg h2, if_pos h3]) (Ev.step (f := fun _ => some false) (fun k => rfl) ?_)
    rw [decide_eq_false (by omega)]; exact Ev.now _
  refine Ev.congr (f := fun k => classing_sub.j0 k (decide (d > r)) r d a g v) (fun k => by unfold classing_sub.f; rw [if_neg h1, if_neg h2, if_neg h3]) ?_
  by_cases h4 : d > r
  · rw [decide_eq_true h4]
    refine Ev.step (f := fun _ => some false) (fun k => rfl) ?_
    rw [decide_eq_false (by omega)]; exact Ev.now _
  rw [decide_eq_false h4]
  refine Ev.step (f := fun _ => some (decide (1 ≤ r ∧ r ≤ 10000 ∧ 0 ≤ d ∧ d ≤ r ∧ 0 ≤ a ∧ 0 ≤ g ∧ 0 ≤ v ∧ a + g + v ≤ d))) (fun k => ?_) (Ev.now _)
  simp only [classing_sub.j0]
  rw [if_neg (by decide)]
  by_cases c1 : a < 0
  · rw [if_pos c1, decide_eq_false (by omega)]
  by_cases c2 : a > d
  · rw [if_neg c1, if_pos c2, decide_eq_false (by omega)]
  by_cases c3 : g < 0
  · rw [if_neg c1, if_neg c2, if_pos c3, decide_eq_false (by omega)]
  by_cases c4 : g > d
  · rw [if_neg c1, if_neg c2, if_neg c3, if_pos c4, decide_eq_false (by omega)]
  by_cases c5 : v < 0
  · rw [if_neg c1, if_neg c2, if_neg c3, if_neg c4, if_pos c5, decide_eq_false (by omega)]
  by_cases c6 : v > d
  · rw [if_neg c1, if_neg c2, if_neg c3, if_neg c4, if_neg c5, if_pos c6, decide_eq_false (by omega)]
  rw [if_neg c1, if_neg c2, if_neg c3, if_neg c4, if_neg c5, if_neg c6, wrap_id (x := a + g) (by omega) (by omega), wrap_id (x := a + g + v) (by omega) (by omega)]
  refine some_eq (decide_eq_decide.2 ?_)
  omega
theorem valid_eq (r d a g v : Int) : merinoref03_ValidSub.f r d a g v = some (vsub r d a g v) := by
  unfold vsub merinoref03_ValidSub.f
  by_cases h1 : r < 1
  · rw [if_pos h1, decide_eq_false (by omega)]
  by_cases h2 : r > 10000
  · rw [if_neg h1, if_pos h2, decide_eq_false (by omega)]
  by_cases h3 : d < 0
  · rw [if_neg h1, if_neg h2, if_pos h3, decide_eq_false (by omega)]
  by_cases h4 : d > r
  · rw [if_neg h1, if_neg h2, if_neg h3, if_pos h4, decide_eq_false (by omega)]
  by_cases c1 : a < 0
  · rw [if_neg h1, if_neg h2, if_neg h3, if_neg h4, if_pos c1, decide_eq_false (by omega)]
  by_cases c3 : g < 0
  · rw [if_neg h1, if_neg h2, if_neg h3, if_neg h4, if_neg c1, if_pos c3, decide_eq_false (by omega)]
  by_cases c5 : v < 0
  · rw [if_neg h1, if_neg h2, if_neg h3, if_neg h4, if_neg c1, if_neg c3, if_pos c5, decide_eq_false (by omega)]
  rw [if_neg h1, if_neg h2, if_neg h3, if_neg h4, if_neg c1, if_neg c3, if_neg c5]
  by_cases c2 : a ≤ d
  · rw [if_pos c2, wrap_id (x := d - a) (by omega) (by omega)]
    by_cases c4 : g ≤ d - a
    · rw [if_pos c4, wrap_id (x := d - a - g) (by omega) (by omega)]
      refine some_eq (decide_eq_decide.2 ?_)
      omega
    · rw [if_neg c4, decide_eq_false (by omega)]
  · rw [if_neg c2, decide_eq_false (by omega)]
theorem vsub_true {r d a g v : Int} (h : vsub r d a g v = true) : 1 ≤ r ∧ r ≤ 10000 ∧ 0 ≤ d ∧ d ≤ r ∧ 0 ≤ a ∧ 0 ≤ g ∧ 0 ≤ v ∧ a + g + v ≤ d := of_decide_eq_true h
theorem wool_eq {r d a g v : Int} (h : vsub r d a g v = true) : classing_wool.f r d a g v = some (d - a - g - v) ∧ merinoref03_wool.f r d a g v = some (d - a - g - v) := by
  obtain ⟨h1, h2, h3, h4, h5, h6, h7, h8⟩ := vsub_true h
  have e : wrap64 ((wrap64 ((wrap64 (d - a)) - g)) - v) = d - a - g - v := by
    rw [wrap_id (x := d - a) (by omega) (by omega), wrap_id (x := d - a - g) (by omega) (by omega), wrap_id (by omega) (by omega)]
  exact ⟨some_eq e, some_eq e⟩
/-- The wool base of a subsample: its two numbers and the fault. -/
def baseN (r d a g v : Int) : Int := if vsub r d a g v = true then (((d - a - g - v).toNat / Nat.gcd (d - a - g - v).toNat r.toNat : Nat) : Int) else 0
def baseD (r d a g v : Int) : Int := if vsub r d a g v = true then ((r.toNat / Nat.gcd (d - a - g - v).toNat r.toNat : Nat) : Int) else 0
def baseE (r d a g v : Int) : Int := if vsub r d a g v = true then 0 else 2
end Go.Proofs.Ythkfahkkcjagdaa
namespace Go.Proofs.Ythkfahkkcjagdaa
open PClassingBases Go.RowKit Go.Proofs.YthkfahkkcjagdaaW.PrintWords Go.Proofs.YthkfahkkcjagdaaW.PrintMore Go.Proofs.YthkfahkkcjagdaaW.PrintLast
set_option linter.unusedVariables false
set_option linter.unusedSimpArgs false

theorem Sm_small {n : Nat} (h : n < 100000000000000000000) : Sm n := Nat.le_trans (dig_len_lt (e := 5) h) (by decide)
theorem Sm_small9 {n : Nat} (h : n < 100000000000000000000) : (dig n).length ≤ 99 := Nat.le_trans (dig_len_lt (e := 5) h) (by decide)
set_option maxHeartbeats 8000000 in
set_option maxRecDepth 100000 in
theorem rbase_any (w : World) (r d a g v : Int) :
    Calls Try.prog 30 #[.agg #[.int .i64 r, .int .i64 d, .int .i64 a, .int .i64 g, .int .i64 v]] w fun e w' => e = .returned (.tuple #[.agg #[.int .i64 (baseN r d a g v), .int .i64 (baseD r d a g v)], .int .i64 (baseE r d a g v)]) ∧ Below w.heap.size w w' := by
  have hu55 := Try.underlying55
  have hu57 := Try.underlying57
  have HVS := Aside0.mk (valid_eq r d a g v)
  have HS : Aside0 (Below w.heap.size w w) := ⟨Below.refl _ _⟩
  cases hv : vsub r d a g v with
  | false =>
    have HN : Aside0 (baseN r d a g v = 0 ∧ baseD r d a g v = 0 ∧ baseE r d a g v = 2) := ⟨by unfold baseN baseD baseE; rw [hv]; exact ⟨rfl, rfl, rfl⟩⟩
    rw [hv] at HVS
    clear hv
    rw [HN.out.1, HN.out.2.1, HN.out.2.2]
    clear HN
    go_enter Try.func30, Try.ntmps30
    go_wp2_with (first
      | ((with_reducible refine gate_dst (N := 1) rfl ?_); (try (refine gate_guard (by rfl) ?_; dsimp only)); refine box_event ?hg (N := 1) ?hd (cs := #[.int .i64 r, .int .i64 d, .int .i64 a, .int .i64 g, .int .i64 v]) (t := 55) ?hr ?_; (case hd => rfl); (case hg => rfl); (case hr => first | (go_simp; done) | (go_simp; rfl)); intro g1 hg_ v1_ hbox hb; have ge_g1 : Aside0 (w.heap.size ≤ g1) := ⟨by rw [hg_]; exact below_size (HS.out)⟩; have HT : Aside0 (Below w.heap.size w v1_ ∧ v1_.heap[g1]? = some (.cells #[.int .i64 r, .int .i64 d, .int .i64 a, .int .i64 g, .int .i64 v] 55 (0, 0))) := ⟨⟨below_step HS.out hb, hbox⟩⟩; clear HS; have HS := HT; clear HT hb hbox hg_; have cv1__g1_0 : v1_.cell? ⟨g1, 0, none⟩ = some (.int .i64 r) := (blk_cell (HS.out.2) 0).trans rfl; have cv1__g1_1 : v1_.cell? ⟨g1, 1, none⟩ = some (.int .i64 d) := (blk_cell (HS.out.2) 1).trans rfl; have cv1__g1_2 : v1_.cell? ⟨g1, 2, none⟩ = some (.int .i64 a) := (blk_cell (HS.out.2) 2).trans rfl; have cv1__g1_3 : v1_.cell? ⟨g1, 3, none⟩ = some (.int .i64 g) := (blk_cell (HS.out.2) 3).trans rfl; have cv1__g1_4 : v1_.cell? ⟨g1, 4, none⟩ = some (.int .i64 v) := (blk_cell (HS.out.2) 4).trans rfl)
      | ((with_reducible refine gate_dst (N := 2) rfl ?_); (try (refine gate_guard (by rfl) ?_; dsimp only)); refine box_event ?hg (N := 2) ?hd (cs := #[.int .i64 0, .int .i64 0]) (t := 57) ?hr ?_; (case hd => rfl); (case hg => rfl); (case hr => first | (go_simp; done) | (go_simp; rfl)); intro g2 hg_ v2_ hbox hb; have ge_g2 : Aside0 (w.heap.size ≤ g2) := ⟨by rw [hg_]; exact below_size (HS.out.1)⟩; have ne_g1_g2 : g1 ≠ g2 := (by rw [hg_]; exact Nat.ne_of_lt (blk_lt (HS.out.2))); have ne_g2_g1 : g2 ≠ g1 := (by rw [hg_]; exact Nat.ne_of_gt (blk_lt (HS.out.2))); have HT : Aside0 (Below w.heap.size w v2_ ∧ v2_.heap[g1]? = some (.cells #[.int .i64 r, .int .i64 d, .int .i64 a, .int .i64 g, .int .i64 v] 55 (0, 0)) ∧ v2_.heap[g2]? = some (.cells #[.int .i64 0, .int .i64 0] 57 (0, 0))) := ⟨⟨below_step HS.out.1 hb, blk_below HS.out.2 hb, hbox⟩⟩; clear HS; have HS := HT; clear HT hb hbox hg_; have cv2__g1_0 : v2_.cell? ⟨g1, 0, none⟩ = some (.int .i64 r) := (blk_cell (HS.out.2.1) 0).trans rfl; have cv2__g1_1 : v2_.cell? ⟨g1, 1, none⟩ = some (.int .i64 d) := (blk_cell (HS.out.2.1) 1).trans rfl; have cv2__g1_2 : v2_.cell? ⟨g1, 2, none⟩ = some (.int .i64 a) := (blk_cell (HS.out.2.1) 2).trans rfl; have cv2__g1_3 : v2_.cell? ⟨g1, 3, none⟩ = some (.int .i64 g) := (blk_cell (HS.out.2.1) 3).trans rfl; have cv2__g1_4 : v2_.cell? ⟨g1, 4, none⟩ = some (.int .i64 v) := (blk_cell (HS.out.2.1) 4).trans rfl; have cv2__g2_0 : v2_.cell? ⟨g2, 0, none⟩ = some (.int .i64 0) := (blk_cell (HS.out.2.2) 0).trans rfl; have zv2__g2_0 : v2_.frozen? ⟨g2, 0, none⟩ = false := blk_frozen (HS.out.2.2) 0; have cv2__g2_1 : v2_.cell? ⟨g2, 1, none⟩ = some (.int .i64 0) := (blk_cell (HS.out.2.2) 1).trans rfl; have zv2__g2_1 : v2_.frozen? ⟨g2, 1, none⟩ = false := blk_frozen (HS.out.2.2) 1)
      | ((with_reducible refine gate_callee (f := 72) rfl ?_); (try (refine gate_guard (by rfl) ?_; dsimp only)); refine goesL_ (some 5) rfl rfl Try.func72 (by kernel_rfl) rfl #[.agg #[.int .i64 r, .int .i64 d, .int .i64 a, .int .i64 g, .int .i64 v]] rfl (by (try simp only [List.map_toArray, List.map_cons, List.map_nil]); first | done | rfl) ?_; (with_reducible refine (merinoref03_ValidSub.calls r d a g v _ _ HVS.out).mono ?_); rintro e v3_ ⟨rfl, hb⟩; refine ⟨_, rfl, ?_⟩; have HT : Aside0 (Below w.heap.size w v3_ ∧ v3_.heap[g1]? = some (.cells #[.int .i64 r, .int .i64 d, .int .i64 a, .int .i64 g, .int .i64 v] 55 (0, 0)) ∧ v3_.heap[g2]? = some (.cells #[.int .i64 0, .int .i64 0] 57 (0, 0))) := ⟨⟨below_step HS.out.1 hb, blk_below HS.out.2.1 hb, blk_below HS.out.2.2 hb⟩⟩; clear HS; have HS := HT; clear HT; have cv3__g1_0 : v3_.cell? ⟨g1, 0, none⟩ = some (.int .i64 r) := (blk_cell (HS.out.2.1) 0).trans rfl; have cv3__g1_1 : v3_.cell? ⟨g1, 1, none⟩ = some (.int .i64 d) := (blk_cell (HS.out.2.1) 1).trans rfl; have cv3__g1_2 : v3_.cell? ⟨g1, 2, none⟩ = some (.int .i64 a) := (blk_cell (HS.out.2.1) 2).trans rfl; have cv3__g1_3 : v3_.cell? ⟨g1, 3, none⟩ = some (.int .i64 g) := (blk_cell (HS.out.2.1) 3).trans rfl; have cv3__g1_4 : v3_.cell? ⟨g1, 4, none⟩ = some (.int .i64 v) := (blk_cell (HS.out.2.1) 4).trans rfl; have cv3__g2_0 : v3_.cell? ⟨g2, 0, none⟩ = some (.int .i64 0) := (blk_cell (HS.out.2.2) 0).trans rfl; have zv3__g2_0 : v3_.frozen? ⟨g2, 0, none⟩ = false := blk_frozen (HS.out.2.2) 0; have cv3__g2_1 : v3_.cell? ⟨g2, 1, none⟩ = some (.int .i64 0) := (blk_cell (HS.out.2.2) 1).trans rfl; have zv3__g2_1 : v3_.frozen? ⟨g2, 1, none⟩ = false := blk_frozen (HS.out.2.2) 1))
    refine bodyPost_ret (results_ct rfl _ _ g2 57 #[.int .i64 0, .int .i64 0] (0, 0) _ rfl (by refine blk_put (cs := #[.int .i64 0, .int .i64 0]) ?_ 1 _ rfl; refine blk_put (cs := #[.int .i64 0, .int .i64 0]) ?_ 0 _ rfl; exact HS.out.2.2) Try.underlying57 rfl (by kernel_rfl)) rfl ?_
    exact ⟨rfl, below_set (below_set (HS.out.1) ge_g2.out) ge_g2.out⟩
  | true =>
    obtain ⟨i1, i2, i3, i4, i5, i6, i7, i8⟩ := vsub_true hv
    have HWO := Aside0.mk (wool_eq hv).2
    obtain ⟨y, hy⟩ : ∃ z, z = d - a - g - v := ⟨_, rfl⟩
    have y0 : 0 ≤ y := by omega
    have y1 : y ≤ 10000 := by omega
    have HN : Aside0 (baseN r d a g v = ((y.toNat / Nat.gcd y.toNat r.toNat : Nat) : Int) ∧ baseD r d a g v = ((r.toNat / Nat.gcd y.toNat r.toNat : Nat) : Int) ∧ baseE r d a g v = 0) := ⟨by unfold baseN baseD baseE; rw [hv, hy]; exact ⟨rfl, rfl, rfl⟩⟩
    rw [hv] at HVS
    rw [← hy] at HWO
    clear hv hy
    rw [HN.out.1, HN.out.2.1, HN.out.2.2]
    clear HN
    have HO1 := Aside0.mk (big_of0 (x := y) y0 (by omega))
    have HO2 := Aside0.mk (big_of0 (x := r) (by omega) (by omega))
    have q1 : y.toNat / Nat.gcd y.toNat r.toNat ≤ y.toNat := Nat.div_le_self _ _
    have q2 : r.toNat / Nat.gcd y.toNat r.toNat ≤ r.toNat := Nat.div_le_self _ _
    have HL : Aside0 (∀ {u v : Value} {w : World}, BD w u y.toNat → BD w v r.toNat → Calls Try.prog 73 #[.agg #[.bool false, u], .agg #[.bool false, v]] w fun e w' => e = .returned (.tuple #[.agg #[.int .i64 ((y.toNat / Nat.gcd y.toNat r.toNat : Nat) : Int), .int .i64 ((r.toNat / Nat.gcd y.toNat r.toNat : Nat) : Int)], .int .i64 0]) ∧ Below w.heap.size w w') :=
      ⟨fun hu hv => lowest_any hu hv (Sm_small (by omega)) (by omega) (Sm_small (by omega)) (by omega) (by omega)⟩
    clear q1 q2 i1 i2 i3 i4 i5 i6 i7 i8 y0 y1
    generalize y.toNat / Nat.gcd y.toNat r.toNat = p at *
    generalize r.toNat / Nat.gcd y.toNat r.toNat = q at *
    go_enter Try.func30, Try.ntmps30
    go_upto_region 3 with (first
      | ((with_reducible refine gate_dst (N := 1) rfl ?_); (try (refine gate_guard (by rfl) ?_; dsimp only)); refine box_event ?hg (N := 1) ?hd (cs := #[.int .i64 r, .int .i64 d, .int .i64 a, .int .i64 g, .int .i64 v]) (t := 55) ?hr ?_; (case hd => rfl); (case hg => rfl); (case hr => first | (go_simp; done) | (go_simp; rfl)); intro g1 hg_ v1_ hbox hb; have ge_g1 : Aside0 (w.heap.size ≤ g1) := ⟨by rw [hg_]; exact below_size (HS.out)⟩; have HT : Aside0 (Below w.heap.size w v1_ ∧ v1_.heap[g1]? = some (.cells #[.int .i64 r, .int .i64 d, .int .i64 a, .int .i64 g, .int .i64 v] 55 (0, 0))) := ⟨⟨below_step HS.out hb, hbox⟩⟩; clear HS; have HS := HT; clear HT hb hbox hg_; have cv1__g1_0 : v1_.cell? ⟨g1, 0, none⟩ = some (.int .i64 r) := (blk_cell (HS.out.2) 0).trans rfl; have cv1__g1_1 : v1_.cell? ⟨g1, 1, none⟩ = some (.int .i64 d) := (blk_cell (HS.out.2) 1).trans rfl; have cv1__g1_2 : v1_.cell? ⟨g1, 2, none⟩ = some (.int .i64 a) := (blk_cell (HS.out.2) 2).trans rfl; have cv1__g1_3 : v1_.cell? ⟨g1, 3, none⟩ = some (.int .i64 g) := (blk_cell (HS.out.2) 3).trans rfl; have cv1__g1_4 : v1_.cell? ⟨g1, 4, none⟩ = some (.int .i64 v) := (blk_cell (HS.out.2) 4).trans rfl)
      | ((with_reducible refine gate_dst (N := 2) rfl ?_); (try (refine gate_guard (by rfl) ?_; dsimp only)); refine box_event ?hg (N := 2) ?hd (cs := #[.int .i64 0, .int .i64 0]) (t := 57) ?hr ?_; (case hd => rfl); (case hg => rfl); (case hr => first | (go_simp; done) | (go_simp; rfl)); intro g2 hg_ v2_ hbox hb; have ge_g2 : Aside0 (w.heap.size ≤ g2) := ⟨by rw [hg_]; exact below_size (HS.out.1)⟩; have ne_g1_g2 : g1 ≠ g2 := (by rw [hg_]; exact Nat.ne_of_lt (blk_lt (HS.out.2))); have ne_g2_g1 : g2 ≠ g1 := (by rw [hg_]; exact Nat.ne_of_gt (blk_lt (HS.out.2))); have HT : Aside0 (Below w.heap.size w v2_ ∧ v2_.heap[g1]? = some (.cells #[.int .i64 r, .int .i64 d, .int .i64 a, .int .i64 g, .int .i64 v] 55 (0, 0)) ∧ v2_.heap[g2]? = some (.cells #[.int .i64 0, .int .i64 0] 57 (0, 0))) := ⟨⟨below_step HS.out.1 hb, blk_below HS.out.2 hb, hbox⟩⟩; clear HS; have HS := HT; clear HT hb hbox hg_; have cv2__g1_0 : v2_.cell? ⟨g1, 0, none⟩ = some (.int .i64 r) := (blk_cell (HS.out.2.1) 0).trans rfl; have cv2__g1_1 : v2_.cell? ⟨g1, 1, none⟩ = some (.int .i64 d) := (blk_cell (HS.out.2.1) 1).trans rfl; have cv2__g1_2 : v2_.cell? ⟨g1, 2, none⟩ = some (.int .i64 a) := (blk_cell (HS.out.2.1) 2).trans rfl; have cv2__g1_3 : v2_.cell? ⟨g1, 3, none⟩ = some (.int .i64 g) := (blk_cell (HS.out.2.1) 3).trans rfl; have cv2__g1_4 : v2_.cell? ⟨g1, 4, none⟩ = some (.int .i64 v) := (blk_cell (HS.out.2.1) 4).trans rfl; have cv2__g2_0 : v2_.cell? ⟨g2, 0, none⟩ = some (.int .i64 0) := (blk_cell (HS.out.2.2) 0).trans rfl; have zv2__g2_0 : v2_.frozen? ⟨g2, 0, none⟩ = false := blk_frozen (HS.out.2.2) 0; have cv2__g2_1 : v2_.cell? ⟨g2, 1, none⟩ = some (.int .i64 0) := (blk_cell (HS.out.2.2) 1).trans rfl; have zv2__g2_1 : v2_.frozen? ⟨g2, 1, none⟩ = false := blk_frozen (HS.out.2.2) 1)
      | ((with_reducible refine gate_callee (f := 72) rfl ?_); (try (refine gate_guard (by rfl) ?_; dsimp only)); refine goesL_ (some 5) rfl rfl Try.func72 (by kernel_rfl) rfl #[.agg #[.int .i64 r, .int .i64 d, .int .i64 a, .int .i64 g, .int .i64 v]] rfl (by (try simp only [List.map_toArray, List.map_cons, List.map_nil]); first | done | rfl) ?_; (with_reducible refine (merinoref03_ValidSub.calls r d a g v _ _ HVS.out).mono ?_); rintro e v3_ ⟨rfl, hb⟩; refine ⟨_, rfl, ?_⟩; have HT : Aside0 (Below w.heap.size w v3_ ∧ v3_.heap[g1]? = some (.cells #[.int .i64 r, .int .i64 d, .int .i64 a, .int .i64 g, .int .i64 v] 55 (0, 0)) ∧ v3_.heap[g2]? = some (.cells #[.int .i64 0, .int .i64 0] 57 (0, 0))) := ⟨⟨below_step HS.out.1 hb, blk_below HS.out.2.1 hb, blk_below HS.out.2.2 hb⟩⟩; clear HS; have HS := HT; clear HT; have cv3__g1_0 : v3_.cell? ⟨g1, 0, none⟩ = some (.int .i64 r) := (blk_cell (HS.out.2.1) 0).trans rfl; have cv3__g1_1 : v3_.cell? ⟨g1, 1, none⟩ = some (.int .i64 d) := (blk_cell (HS.out.2.1) 1).trans rfl; have cv3__g1_2 : v3_.cell? ⟨g1, 2, none⟩ = some (.int .i64 a) := (blk_cell (HS.out.2.1) 2).trans rfl; have cv3__g1_3 : v3_.cell? ⟨g1, 3, none⟩ = some (.int .i64 g) := (blk_cell (HS.out.2.1) 3).trans rfl; have cv3__g1_4 : v3_.cell? ⟨g1, 4, none⟩ = some (.int .i64 v) := (blk_cell (HS.out.2.1) 4).trans rfl; have cv3__g2_0 : v3_.cell? ⟨g2, 0, none⟩ = some (.int .i64 0) := (blk_cell (HS.out.2.2) 0).trans rfl; have zv3__g2_0 : v3_.frozen? ⟨g2, 0, none⟩ = false := blk_frozen (HS.out.2.2) 0; have cv3__g2_1 : v3_.cell? ⟨g2, 1, none⟩ = some (.int .i64 0) := (blk_cell (HS.out.2.2) 1).trans rfl; have zv3__g2_1 : v3_.frozen? ⟨g2, 1, none⟩ = false := blk_frozen (HS.out.2.2) 1))
    have HT : Aside0 (Below w.heap.size w v3_.drew ∧ v3_.drew.heap[g1]? = some (.cells #[.int .i64 r, .int .i64 d, .int .i64 a, .int .i64 g, .int .i64 v] 55 (0, 0)) ∧ v3_.drew.heap[g2]? = some (.cells #[.int .i64 0, .int .i64 0] 57 (0, 0))) := ⟨⟨below_drew1 (HS.out.1), blk_drew (HS.out.2.1), blk_drew (HS.out.2.2)⟩⟩
    clear HS
    have HS := HT
    clear HT
    refine start_ (n := 11) (S := (fun W_ => W_.cell? ⟨g1, 0, none⟩ = some (.int .i64 r) ∧ W_.cell? ⟨g1, 1, none⟩ = some (.int .i64 d) ∧ W_.cell? ⟨g1, 2, none⟩ = some (.int .i64 a) ∧ W_.cell? ⟨g1, 3, none⟩ = some (.int .i64 g) ∧ W_.cell? ⟨g1, 4, none⟩ = some (.int .i64 v))) (ds := [9]) #[false, false, false, false, false, false, false, false, false, false, false] (by kernel_rfl) rfl rfl (⟨(blk_cell (HS.out.2.1) 0).trans rfl, (blk_cell (HS.out.2.1) 1).trans rfl, (blk_cell (HS.out.2.1) 2).trans rfl, (blk_cell (HS.out.2.1) 3).trans rfl, (blk_cell (HS.out.2.1) 4).trans rfl⟩) (fun hHeld => ?_)
    generalize v3_.drew = v4_ at HS hHeld ⊢
    refine take_ (i := 0) (N := some 8) (v := ?_) (a' := ?_) #[true, false, false, false, false, false, false, false, false, false, false] rfl rfl (by kernel_rfl) (fun _ _ _ h => h) (Or.inl ⟨by rfl, ?_⟩) hHeld ?_ ?_
    rotate_left
    · rintro w' ⟨s0, s1, s2, s3, s4⟩
      go_simp
      with_reducible rfl
    rotate_left
    · simp only [Act.put, List.setIfInBounds_toArray, List.set_cons_zero, List.set_cons_succ, i64_w, i32_w]
      rfl
    refine pure_ (i := 3) (N := some 11) (v := ?_) (a' := ?_) #[true, false, false, true, false, false, false, false, false, false, false] rfl rfl (by kernel_rfl) (fun _ _ _ h => h) (Or.inl ⟨by rfl, ?_⟩) ?_ ?_
    rotate_left
    · intro w'
      go_simp
      with_reducible rfl
    rotate_left
    · simp only [Act.put, List.setIfInBounds_toArray, List.set_cons_zero, List.set_cons_succ, i64_w, i32_w]
      rfl
    refine take_ (i := 4) (N := some 12) (v := ?_) (a' := ?_) #[true, false, false, true, true, false, false, false, false, false, false] rfl rfl (by kernel_rfl) (fun _ _ _ h => h) (Or.inl ⟨by rfl, ?_⟩) hHeld ?_ ?_
    rotate_left
    · rintro w' ⟨s0, s1, s2, s3, s4⟩
      go_simp
      with_reducible rfl
    rotate_left
    · simp only [Act.put, List.setIfInBounds_toArray, List.set_cons_zero, List.set_cons_succ, i64_w, i32_w]
      rfl
    refine one_ (i := 1) (N := some 9) #[true, true, false, true, true, false, false, false, false, false, false] rfl rfl (by kernel_rfl) (by decide) (fun K hK => ?_)
    refine goes_ Try.func75 (by kernel_rfl) rfl #[.agg #[.int .i64 r, .int .i64 d, .int .i64 a, .int .i64 g, .int .i64 v]] (by rfl) rfl rfl (by (try simp only [List.map_toArray, List.map_cons, List.map_nil]); first | done | rfl) ?_
    with_reducible refine (merinoref03_wool.calls r d a g v y _ HWO.out).mono ?_
    rintro e v5_ ⟨rfl, hb⟩
    refine ⟨_, rfl, ?_⟩
    have HT : Aside0 (Below w.heap.size w v5_ ∧ v5_.heap[g1]? = some (.cells #[.int .i64 r, .int .i64 d, .int .i64 a, .int .i64 g, .int .i64 v] 55 (0, 0)) ∧ v5_.heap[g2]? = some (.cells #[.int .i64 0, .int .i64 0] 57 (0, 0))) := ⟨⟨below_step HS.out.1 hb, blk_below HS.out.2.1 hb, blk_below HS.out.2.2 hb⟩⟩
    clear HS
    have HS := HT
    clear HT
    refine hK.out _ _ (⟨(blk_cell (HS.out.2.1) 0).trans rfl, (blk_cell (HS.out.2.1) 1).trans rfl, (blk_cell (HS.out.2.1) 2).trans rfl, (blk_cell (HS.out.2.1) 3).trans rfl, (blk_cell (HS.out.2.1) 4).trans rfl⟩) (fun hHeld => ?_)
    clear hK K
    refine norm_ (a' := ?_) ?_ ?_
    rotate_left
    · show Act.put _ (some 9) _ = _
      simp only [Act.put, List.setIfInBounds_toArray, List.set_cons_zero, List.set_cons_succ, i64_w, i32_w]
      rfl
    refine one_ (i := 2) (N := some 10) #[true, true, true, true, true, false, false, false, false, false, false] rfl rfl (by kernel_rfl) (by decide) (fun K hK => ?_)
    refine goes_ Try.func74 (by kernel_rfl) rfl #[.int .i64 y] (by rfl) rfl rfl (by (try simp only [List.map_toArray, List.map_cons, List.map_nil]); first | done | rfl) ?_
    with_reducible refine (HO1.out _).mono ?_
    rintro e v6_ ⟨Ay, my, cy, rfl, hz_, hb⟩
    refine ⟨_, rfl, ?_⟩
    have HT : Aside0 (Below w.heap.size w v6_ ∧ v6_.heap[g1]? = some (.cells #[.int .i64 r, .int .i64 d, .int .i64 a, .int .i64 g, .int .i64 v] 55 (0, 0)) ∧ v6_.heap[g2]? = some (.cells #[.int .i64 0, .int .i64 0] 57 (0, 0)) ∧ BD v6_ (.slice Ay my cy) (y.toNat)) := ⟨⟨below_step HS.out.1 hb, blk_below HS.out.2.1 hb, blk_below HS.out.2.2 hb, hz_⟩⟩
    clear HS
    have HS := HT
    clear HT
    refine hK.out _ _ (⟨(blk_cell (HS.out.2.1) 0).trans rfl, (blk_cell (HS.out.2.1) 1).trans rfl, (blk_cell (HS.out.2.1) 2).trans rfl, (blk_cell (HS.out.2.1) 3).trans rfl, (blk_cell (HS.out.2.1) 4).trans rfl⟩) (fun hHeld => ?_)
    clear hK K
    refine norm_ (a' := ?_) ?_ ?_
    rotate_left
    · show Act.put _ (some 10) _ = _
      simp only [Act.put, List.setIfInBounds_toArray, List.set_cons_zero, List.set_cons_succ, i64_w, i32_w]
      rfl
    refine one_ (i := 5) (N := some 13) #[true, true, true, true, true, true, false, false, false, false, false] rfl rfl (by kernel_rfl) (by decide) (fun K hK => ?_)
    refine goes_ Try.func74 (by kernel_rfl) rfl #[.int .i64 r] (by rfl) rfl rfl (by (try simp only [List.map_toArray, List.map_cons, List.map_nil]); first | done | rfl) ?_
    with_reducible refine (HO2.out _).mono ?_
    rintro e v7_ ⟨Ar, mr, cr, rfl, hz_, hb⟩
    refine ⟨_, rfl, ?_⟩
    have HT : Aside0 (Below w.heap.size w v7_ ∧ v7_.heap[g1]? = some (.cells #[.int .i64 r, .int .i64 d, .int .i64 a, .int .i64 g, .int .i64 v] 55 (0, 0)) ∧ v7_.heap[g2]? = some (.cells #[.int .i64 0, .int .i64 0] 57 (0, 0)) ∧ BD v7_ (.slice Ay my cy) (y.toNat) ∧ BD v7_ (.slice Ar mr cr) (r.toNat)) := ⟨⟨below_step HS.out.1 hb, blk_below HS.out.2.1 hb, blk_below HS.out.2.2.1 hb, BD.below HS.out.2.2.2 hb, hz_⟩⟩
    clear HS
    have HS := HT
    clear HT
    refine hK.out _ _ (⟨(blk_cell (HS.out.2.1) 0).trans rfl, (blk_cell (HS.out.2.1) 1).trans rfl, (blk_cell (HS.out.2.1) 2).trans rfl, (blk_cell (HS.out.2.1) 3).trans rfl, (blk_cell (HS.out.2.1) 4).trans rfl⟩) (fun hHeld => ?_)
    clear hK K
    refine norm_ (a' := ?_) ?_ ?_
    rotate_left
    · show Act.put _ (some 13) _ = _
      simp only [Act.put, List.setIfInBounds_toArray, List.set_cons_zero, List.set_cons_succ, i64_w, i32_w]
      rfl
    refine one_ (i := 6) (N := some 14) #[true, true, true, true, true, true, true, false, false, false, false] rfl rfl (by kernel_rfl) (by decide) (fun K hK => ?_)
    refine goes_ Try.func73 (by kernel_rfl) rfl #[.agg #[.bool false, .slice Ay my cy], .agg #[.bool false, .slice Ar mr cr]] (by rfl) rfl rfl (by (try simp only [List.map_toArray, List.map_cons, List.map_nil]); first | done | rfl) ?_
    with_reducible refine (HL.out (HS.out.2.2.2.1) (HS.out.2.2.2.2)).mono ?_
    rintro e v8_ ⟨rfl, hb⟩
    refine ⟨_, rfl, ?_⟩
    have HT : Aside0 (Below w.heap.size w v8_ ∧ v8_.heap[g1]? = some (.cells #[.int .i64 r, .int .i64 d, .int .i64 a, .int .i64 g, .int .i64 v] 55 (0, 0)) ∧ v8_.heap[g2]? = some (.cells #[.int .i64 0, .int .i64 0] 57 (0, 0)) ∧ BD v8_ (.slice Ay my cy) (y.toNat) ∧ BD v8_ (.slice Ar mr cr) (r.toNat)) := ⟨⟨below_step HS.out.1 hb, blk_below HS.out.2.1 hb, blk_below HS.out.2.2.1 hb, BD.below HS.out.2.2.2.1 hb, BD.below HS.out.2.2.2.2 hb⟩⟩
    clear HS
    have HS := HT
    clear HT
    refine hK.out _ _ (⟨(blk_cell (HS.out.2.1) 0).trans rfl, (blk_cell (HS.out.2.1) 1).trans rfl, (blk_cell (HS.out.2.1) 2).trans rfl, (blk_cell (HS.out.2.1) 3).trans rfl, (blk_cell (HS.out.2.1) 4).trans rfl⟩) (fun hHeld => ?_)
    clear hK K
    refine norm_ (a' := ?_) ?_ ?_
    rotate_left
    · show Act.put _ (some 14) _ = _
      simp only [Act.put, List.setIfInBounds_toArray, List.set_cons_zero, List.set_cons_succ, i64_w, i32_w]
      rfl
    refine pure_ (i := 7) (N := some 15) (v := ?_) (a' := ?_) #[true, true, true, true, true, true, true, true, false, false, false] rfl rfl (by kernel_rfl) (fun _ _ _ h => h) (Or.inl ⟨by rfl, ?_⟩) ?_ ?_
    rotate_left
    · intro w'
      go_simp
      with_reducible rfl
    rotate_left
    · simp only [Act.put, List.setIfInBounds_toArray, List.set_cons_zero, List.set_cons_succ, i64_w, i32_w]
      rfl
    refine pure_ (i := 8) (N := some 16) (v := ?_) (a' := ?_) #[true, true, true, true, true, true, true, true, true, false, false] rfl rfl (by kernel_rfl) (fun _ _ _ h => h) (Or.inl ⟨by rfl, ?_⟩) ?_ ?_
    rotate_left
    · intro w'
      go_simp
      with_reducible rfl
    rotate_left
    · simp only [Act.put, List.setIfInBounds_toArray, List.set_cons_zero, List.set_cons_succ, i64_w, i32_w]
      rfl
    refine last_ (i := 9) (N := none) #[true, true, true, true, true, true, true, true, true, true, false] rfl rfl (by kernel_rfl) (by decide) (fun K hK => ?_)
    have cv8__g1_0 : v8_.cell? ⟨g1, 0, none⟩ = some (.int .i64 r) := (blk_cell (HS.out.2.1) 0).trans rfl
    have cv8__g1_1 : v8_.cell? ⟨g1, 1, none⟩ = some (.int .i64 d) := (blk_cell (HS.out.2.1) 1).trans rfl
    have cv8__g1_2 : v8_.cell? ⟨g1, 2, none⟩ = some (.int .i64 a) := (blk_cell (HS.out.2.1) 2).trans rfl
    have cv8__g1_3 : v8_.cell? ⟨g1, 3, none⟩ = some (.int .i64 g) := (blk_cell (HS.out.2.1) 3).trans rfl
    have cv8__g1_4 : v8_.cell? ⟨g1, 4, none⟩ = some (.int .i64 v) := (blk_cell (HS.out.2.1) 4).trans rfl
    have cv8__g2_0 : v8_.cell? ⟨g2, 0, none⟩ = some (.int .i64 0) := (blk_cell (HS.out.2.2.1) 0).trans rfl
    have zv8__g2_0 : v8_.frozen? ⟨g2, 0, none⟩ = false := blk_frozen (HS.out.2.2.1) 0
    have cv8__g2_1 : v8_.cell? ⟨g2, 1, none⟩ = some (.int .i64 0) := (blk_cell (HS.out.2.2.1) 1).trans rfl
    have zv8__g2_1 : v8_.frozen? ⟨g2, 1, none⟩ = false := blk_frozen (HS.out.2.2.1) 1
    refine skip_ (w1 := ?_) (by rfl) rfl ?_ ?_
    rotate_left
    · go_simp
      rfl
    refine hK.out _ _ ?_
    clear hK K
    refine pure_ (i := 10) (N := some 3) (v := ?_) (a' := ?_) #[true, true, true, true, true, true, true, true, true, true, true] rfl rfl (by kernel_rfl) (fun _ _ _ h => h) (Or.inl ⟨by rfl, ?_⟩) ?_ ?_
    rotate_left
    · intro w'
      go_simp
      with_reducible rfl
    rotate_left
    · simp only [Act.put, List.setIfInBounds_toArray, List.set_cons_zero, List.set_cons_succ, i64_w, i32_w]
      rfl
    refine done_ (by kernel_rfl) ?_
    go_wp2_with fail
    refine bodyPost_ret (results_ct rfl _ _ g2 57 #[.int .i64 (p : Int), .int .i64 (q : Int)] (0, 0) _ rfl (by refine blk_put (cs := #[.int .i64 (p : Int), .int .i64 0]) ?_ 1 _ rfl; refine blk_put (cs := #[.int .i64 0, .int .i64 0]) ?_ 0 _ rfl; exact HS.out.2.2.1) Try.underlying57 rfl (by kernel_rfl)) rfl ?_
    exact ⟨rfl, below_set (below_set (HS.out.1) ge_g2.out) ge_g2.out⟩
set_option maxHeartbeats 8000000 in
set_option maxRecDepth 100000 in
theorem base_any (w : World) (r d a g v : Int) :
    Calls Try.prog 29 #[.agg #[.int .i64 r, .int .i64 d, .int .i64 a, .int .i64 g, .int .i64 v]] w fun e w' => e = .returned (.tuple #[.agg #[.int .i64 (baseN r d a g v), .int .i64 (baseD r d a g v)], .int .i64 (baseE r d a g v)]) ∧ Below w.heap.size w w' := by
  have hu55 := Try.underlying55
  have hu57 := Try.underlying57
  obtain ⟨k, hk⟩ := (subm_ev r d a g v).rounds
  have HVS := Aside0.mk hk
  clear hk
  have HS : Aside0 (Below w.heap.size w w) := ⟨Below.refl _ _⟩
  cases hv : vsub r d a g v with
  | false =>
    have HN : Aside0 (baseN r d a g v = 0 ∧ baseD r d a g v = 0 ∧ baseE r d a g v = 2) := ⟨by unfold baseN baseD baseE; rw [hv]; exact ⟨rfl, rfl, rfl⟩⟩
    rw [hv] at HVS
    clear hv
    rw [HN.out.1, HN.out.2.1, HN.out.2.2]
    clear HN
    go_enter Try.func29, Try.ntmps29
    go_wp2_with (first
      | ((with_reducible refine gate_dst (N := 1) rfl ?_); (try (refine gate_guard (by rfl) ?_; dsimp only)); refine box_event ?hg (N := 1) ?hd (cs := #[.int .i64 r, .int .i64 d, .int .i64 a, .int .i64 g, .int .i64 v]) (t := 55) ?hr ?_; (case hd => rfl); (case hg => rfl); (case hr => first | (go_simp; done) | (go_simp; rfl)); intro g1 hg_ v1_ hbox hb; have ge_g1 : Aside0 (w.heap.size ≤ g1) := ⟨by rw [hg_]; exact below_size (HS.out)⟩; have HT : Aside0 (Below w.heap.size w v1_ ∧ v1_.heap[g1]? = some (.cells #[.int .i64 r, .int .i64 d, .int .i64 a, .int .i64 g, .int .i64 v] 55 (0, 0))) := ⟨⟨below_step HS.out hb, hbox⟩⟩; clear HS; have HS := HT; clear HT hb hbox hg_; have cv1__g1_0 : v1_.cell? ⟨g1, 0, none⟩ = some (.int .i64 r) := (blk_cell (HS.out.2) 0).trans rfl; have cv1__g1_1 : v1_.cell? ⟨g1, 1, none⟩ = some (.int .i64 d) := (blk_cell (HS.out.2) 1).trans rfl; have cv1__g1_2 : v1_.cell? ⟨g1, 2, none⟩ = some (.int .i64 a) := (blk_cell (HS.out.2) 2).trans rfl; have cv1__g1_3 : v1_.cell? ⟨g1, 3, none⟩ = some (.int .i64 g) := (blk_cell (HS.out.2) 3).trans rfl; have cv1__g1_4 : v1_.cell? ⟨g1, 4, none⟩ = some (.int .i64 v) := (blk_cell (HS.out.2) 4).trans rfl)
      | ((with_reducible refine gate_dst (N := 2) rfl ?_); (try (refine gate_guard (by rfl) ?_; dsimp only)); refine box_event ?hg (N := 2) ?hd (cs := #[.int .i64 0, .int .i64 0]) (t := 57) ?hr ?_; (case hd => rfl); (case hg => rfl); (case hr => first | (go_simp; done) | (go_simp; rfl)); intro g2 hg_ v2_ hbox hb; have ge_g2 : Aside0 (w.heap.size ≤ g2) := ⟨by rw [hg_]; exact below_size (HS.out.1)⟩; have ne_g1_g2 : g1 ≠ g2 := (by rw [hg_]; exact Nat.ne_of_lt (blk_lt (HS.out.2))); have ne_g2_g1 : g2 ≠ g1 := (by rw [hg_]; exact Nat.ne_of_gt (blk_lt (HS.out.2))); have HT : Aside0 (Below w.heap.size w v2_ ∧ v2_.heap[g1]? = some (.cells #[.int .i64 r, .int .i64 d, .int .i64 a, .int .i64 g, .int .i64 v] 55 (0, 0)) ∧ v2_.heap[g2]? = some (.cells #[.int .i64 0, .int .i64 0] 57 (0, 0))) := ⟨⟨below_step HS.out.1 hb, blk_below HS.out.2 hb, hbox⟩⟩; clear HS; have HS := HT; clear HT hb hbox hg_; have cv2__g1_0 : v2_.cell? ⟨g1, 0, none⟩ = some (.int .i64 r) := (blk_cell (HS.out.2.1) 0).trans rfl; have cv2__g1_1 : v2_.cell? ⟨g1, 1, none⟩ = some (.int .i64 d) := (blk_cell (HS.out.2.1) 1).trans rfl; have cv2__g1_2 : v2_.cell? ⟨g1, 2, none⟩ = some (.int .i64 a) := (blk_cell (HS.out.2.1) 2).trans rfl; have cv2__g1_3 : v2_.cell? ⟨g1, 3, none⟩ = some (.int .i64 g) := (blk_cell (HS.out.2.1) 3).trans rfl; have cv2__g1_4 : v2_.cell? ⟨g1, 4, none⟩ = some (.int .i64 v) := (blk_cell (HS.out.2.1) 4).trans rfl; have cv2__g2_0 : v2_.cell? ⟨g2, 0, none⟩ = some (.int .i64 0) := (blk_cell (HS.out.2.2) 0).trans rfl; have zv2__g2_0 : v2_.frozen? ⟨g2, 0, none⟩ = false := blk_frozen (HS.out.2.2) 0; have cv2__g2_1 : v2_.cell? ⟨g2, 1, none⟩ = some (.int .i64 0) := (blk_cell (HS.out.2.2) 1).trans rfl; have zv2__g2_1 : v2_.frozen? ⟨g2, 1, none⟩ = false := blk_frozen (HS.out.2.2) 1)
      | ((with_reducible refine gate_callee (f := 69) rfl ?_); (try (refine gate_guard (by rfl) ?_; dsimp only)); refine goesL_ (some 5) rfl rfl Try.func69 (by kernel_rfl) rfl #[.agg #[.int .i64 r, .int .i64 d, .int .i64 a, .int .i64 g, .int .i64 v]] rfl (by (try simp only [List.map_toArray, List.map_cons, List.map_nil]); first | done | rfl) ?_; (with_reducible refine (classing_sub.calls k r d a g v _ _ HVS.out).mono ?_); rintro e v3_ ⟨rfl, hb⟩; refine ⟨_, rfl, ?_⟩; have HT : Aside0 (Below w.heap.size w v3_ ∧ v3_.heap[g1]? = some (.cells #[.int .i64 r, .int .i64 d, .int .i64 a, .int .i64 g, .int .i64 v] 55 (0, 0)) ∧ v3_.heap[g2]? = some (.cells #[.int .i64 0, .int .i64 0] 57 (0, 0))) := ⟨⟨below_step HS.out.1 hb, blk_below HS.out.2.1 hb, blk_below HS.out.2.2 hb⟩⟩; clear HS; have HS := HT; clear HT; have cv3__g1_0 : v3_.cell? ⟨g1, 0, none⟩ = some (.int .i64 r) := (blk_cell (HS.out.2.1) 0).trans rfl; have cv3__g1_1 : v3_.cell? ⟨g1, 1, none⟩ = some (.int .i64 d) := (blk_cell (HS.out.2.1) 1).trans rfl; have cv3__g1_2 : v3_.cell? ⟨g1, 2, none⟩ = some (.int .i64 a) := (blk_cell (HS.out.2.1) 2).trans rfl; have cv3__g1_3 : v3_.cell? ⟨g1, 3, none⟩ = some (.int .i64 g) := (blk_cell (HS.out.2.1) 3).trans rfl; have cv3__g1_4 : v3_.cell? ⟨g1, 4, none⟩ = some (.int .i64 v) := (blk_cell (HS.out.2.1) 4).trans rfl; have cv3__g2_0 : v3_.cell? ⟨g2, 0, none⟩ = some (.int .i64 0) := (blk_cell (HS.out.2.2) 0).trans rfl; have zv3__g2_0 : v3_.frozen? ⟨g2, 0, none⟩ = false := blk_frozen (HS.out.2.2) 0; have cv3__g2_1 : v3_.cell? ⟨g2, 1, none⟩ = some (.int .i64 0) := (blk_cell (HS.out.2.2) 1).trans rfl; have zv3__g2_1 : v3_.frozen? ⟨g2, 1, none⟩ = false := blk_frozen (HS.out.2.2) 1))
    refine bodyPost_ret (results_ct rfl _ _ g2 57 #[.int .i64 0, .int .i64 0] (0, 0) _ rfl (by refine blk_put (cs := #[.int .i64 0, .int .i64 0]) ?_ 1 _ rfl; refine blk_put (cs := #[.int .i64 0, .int .i64 0]) ?_ 0 _ rfl; exact HS.out.2.2) Try.underlying57 rfl (by kernel_rfl)) rfl ?_
    exact ⟨rfl, below_set (below_set (HS.out.1) ge_g2.out) ge_g2.out⟩
  | true =>
    obtain ⟨i1, i2, i3, i4, i5, i6, i7, i8⟩ := vsub_true hv
    have HWO := Aside0.mk (wool_eq hv).1
    obtain ⟨y, hy⟩ : ∃ z, z = d - a - g - v := ⟨_, rfl⟩
    have y0 : 0 ≤ y := by omega
    have y1 : y ≤ 10000 := by omega
    have HN : Aside0 (baseN r d a g v = ((y.toNat / Nat.gcd y.toNat r.toNat : Nat) : Int) ∧ baseD r d a g v = ((r.toNat / Nat.gcd y.toNat r.toNat : Nat) : Int) ∧ baseE r d a g v = 0) := ⟨by unfold baseN baseD baseE; rw [hv, hy]; exact ⟨rfl, rfl, rfl⟩⟩
    rw [hv] at HVS
    rw [← hy] at HWO
    clear hv hy
    rw [HN.out.1, HN.out.2.1, HN.out.2.2]
    clear HN
    have hm := make_ev (a := y.toNat) (b := r.toNat) (by omega) (by omega) (by omega)
    rw [show ((y.toNat : Nat) : Int) = y by omega, show ((r.toNat : Nat) : Int) = r by omega] at hm
    obtain ⟨k2, hk2⟩ := hm.rounds
    have HM := Aside0.mk hk2
    clear hm hk2 i1 i2 i3 i4 i5 i6 i7 i8 y0 y1
    generalize y.toNat / Nat.gcd y.toNat r.toNat = p at *
    generalize r.toNat / Nat.gcd y.toNat r.toNat = q at *
    go_enter Try.func29, Try.ntmps29
    go_upto_region 3 with (first
      | ((with_reducible refine gate_dst (N := 1) rfl ?_); (try (refine gate_guard (by rfl) ?_; dsimp only)); refine box_event ?hg (N := 1) ?hd (cs := #[.int .i64 r, .int .i64 d, .int .i64 a, .int .i64 g, .int .i64 v]) (t := 55) ?hr ?_; (case hd => rfl); (case hg => rfl); (case hr => first | (go_simp; done) | (go_simp; rfl)); intro g1 hg_ v1_ hbox hb; have ge_g1 : Aside0 (w.heap.size ≤ g1) := ⟨by rw [hg_]; exact below_size (HS.out)⟩; have HT : Aside0 (Below w.heap.size w v1_ ∧ v1_.heap[g1]? = some (.cells #[.int .i64 r, .int .i64 d, .int .i64 a, .int .i64 g, .int .i64 v] 55 (0, 0))) := ⟨⟨below_step HS.out hb, hbox⟩⟩; clear HS; have HS := HT; clear HT hb hbox hg_; have cv1__g1_0 : v1_.cell? ⟨g1, 0, none⟩ = some (.int .i64 r) := (blk_cell (HS.out.2) 0).trans rfl; have cv1__g1_1 : v1_.cell? ⟨g1, 1, none⟩ = some (.int .i64 d) := (blk_cell (HS.out.2) 1).trans rfl; have cv1__g1_2 : v1_.cell? ⟨g1, 2, none⟩ = some (.int .i64 a) := (blk_cell (HS.out.2) 2).trans rfl; have cv1__g1_3 : v1_.cell? ⟨g1, 3, none⟩ = some (.int .i64 g) := (blk_cell (HS.out.2) 3).trans rfl; have cv1__g1_4 : v1_.cell? ⟨g1, 4, none⟩ = some (.int .i64 v) := (blk_cell (HS.out.2) 4).trans rfl)
      | ((with_reducible refine gate_dst (N := 2) rfl ?_); (try (refine gate_guard (by rfl) ?_; dsimp only)); refine box_event ?hg (N := 2) ?hd (cs := #[.int .i64 0, .int .i64 0]) (t := 57) ?hr ?_; (case hd => rfl); (case hg => rfl); (case hr => first | (go_simp; done) | (go_simp; rfl)); intro g2 hg_ v2_ hbox hb; have ge_g2 : Aside0 (w.heap.size ≤ g2) := ⟨by rw [hg_]; exact below_size (HS.out.1)⟩; have ne_g1_g2 : g1 ≠ g2 := (by rw [hg_]; exact Nat.ne_of_lt (blk_lt (HS.out.2))); have ne_g2_g1 : g2 ≠ g1 := (by rw [hg_]; exact Nat.ne_of_gt (blk_lt (HS.out.2))); have HT : Aside0 (Below w.heap.size w v2_ ∧ v2_.heap[g1]? = some (.cells #[.int .i64 r, .int .i64 d, .int .i64 a, .int .i64 g, .int .i64 v] 55 (0, 0)) ∧ v2_.heap[g2]? = some (.cells #[.int .i64 0, .int .i64 0] 57 (0, 0))) := ⟨⟨below_step HS.out.1 hb, blk_below HS.out.2 hb, hbox⟩⟩; clear HS; have HS := HT; clear HT hb hbox hg_; have cv2__g1_0 : v2_.cell? ⟨g1, 0, none⟩ = some (.int .i64 r) := (blk_cell (HS.out.2.1) 0).trans rfl; have cv2__g1_1 : v2_.cell? ⟨g1, 1, none⟩ = some (.int .i64 d) := (blk_cell (HS.out.2.1) 1).trans rfl; have cv2__g1_2 : v2_.cell? ⟨g1, 2, none⟩ = some (.int .i64 a) := (blk_cell (HS.out.2.1) 2).trans rfl; have cv2__g1_3 : v2_.cell? ⟨g1, 3, none⟩ = some (.int .i64 g) := (blk_cell (HS.out.2.1) 3).trans rfl; have cv2__g1_4 : v2_.cell? ⟨g1, 4, none⟩ = some (.int .i64 v) := (blk_cell (HS.out.2.1) 4).trans rfl; have cv2__g2_0 : v2_.cell? ⟨g2, 0, none⟩ = some (.int .i64 0) := (blk_cell (HS.out.2.2) 0).trans rfl; have zv2__g2_0 : v2_.frozen? ⟨g2, 0, none⟩ = false := blk_frozen (HS.out.2.2) 0; have cv2__g2_1 : v2_.cell? ⟨g2, 1, none⟩ = some (.int .i64 0) := (blk_cell (HS.out.2.2) 1).trans rfl; have zv2__g2_1 : v2_.frozen? ⟨g2, 1, none⟩ = false := blk_frozen (HS.out.2.2) 1)
      | ((with_reducible refine gate_callee (f := 69) rfl ?_); (try (refine gate_guard (by rfl) ?_; dsimp only)); refine goesL_ (some 5) rfl rfl Try.func69 (by kernel_rfl) rfl #[.agg #[.int .i64 r, .int .i64 d, .int .i64 a, .int .i64 g, .int .i64 v]] rfl (by (try simp only [List.map_toArray, List.map_cons, List.map_nil]); first | done | rfl) ?_; (with_reducible refine (classing_sub.calls k r d a g v _ _ HVS.out).mono ?_); rintro e v3_ ⟨rfl, hb⟩; refine ⟨_, rfl, ?_⟩; have HT : Aside0 (Below w.heap.size w v3_ ∧ v3_.heap[g1]? = some (.cells #[.int .i64 r, .int .i64 d, .int .i64 a, .int .i64 g, .int .i64 v] 55 (0, 0)) ∧ v3_.heap[g2]? = some (.cells #[.int .i64 0, .int .i64 0] 57 (0, 0))) := ⟨⟨below_step HS.out.1 hb, blk_below HS.out.2.1 hb, blk_below HS.out.2.2 hb⟩⟩; clear HS; have HS := HT; clear HT; have cv3__g1_0 : v3_.cell? ⟨g1, 0, none⟩ = some (.int .i64 r) := (blk_cell (HS.out.2.1) 0).trans rfl; have cv3__g1_1 : v3_.cell? ⟨g1, 1, none⟩ = some (.int .i64 d) := (blk_cell (HS.out.2.1) 1).trans rfl; have cv3__g1_2 : v3_.cell? ⟨g1, 2, none⟩ = some (.int .i64 a) := (blk_cell (HS.out.2.1) 2).trans rfl; have cv3__g1_3 : v3_.cell? ⟨g1, 3, none⟩ = some (.int .i64 g) := (blk_cell (HS.out.2.1) 3).trans rfl; have cv3__g1_4 : v3_.cell? ⟨g1, 4, none⟩ = some (.int .i64 v) := (blk_cell (HS.out.2.1) 4).trans rfl; have cv3__g2_0 : v3_.cell? ⟨g2, 0, none⟩ = some (.int .i64 0) := (blk_cell (HS.out.2.2) 0).trans rfl; have zv3__g2_0 : v3_.frozen? ⟨g2, 0, none⟩ = false := blk_frozen (HS.out.2.2) 0; have cv3__g2_1 : v3_.cell? ⟨g2, 1, none⟩ = some (.int .i64 0) := (blk_cell (HS.out.2.2) 1).trans rfl; have zv3__g2_1 : v3_.frozen? ⟨g2, 1, none⟩ = false := blk_frozen (HS.out.2.2) 1))
    have HT : Aside0 (Below w.heap.size w v3_.drew ∧ v3_.drew.heap[g1]? = some (.cells #[.int .i64 r, .int .i64 d, .int .i64 a, .int .i64 g, .int .i64 v] 55 (0, 0)) ∧ v3_.drew.heap[g2]? = some (.cells #[.int .i64 0, .int .i64 0] 57 (0, 0))) := ⟨⟨below_drew1 (HS.out.1), blk_drew (HS.out.2.1), blk_drew (HS.out.2.2)⟩⟩
    clear HS
    have HS := HT
    clear HT
    refine start_ (n := 9) (S := (fun W_ => W_.cell? ⟨g1, 0, none⟩ = some (.int .i64 r) ∧ W_.cell? ⟨g1, 1, none⟩ = some (.int .i64 d) ∧ W_.cell? ⟨g1, 2, none⟩ = some (.int .i64 a) ∧ W_.cell? ⟨g1, 3, none⟩ = some (.int .i64 g) ∧ W_.cell? ⟨g1, 4, none⟩ = some (.int .i64 v))) (ds := [7]) #[false, false, false, false, false, false, false, false, false] (by kernel_rfl) rfl rfl (⟨(blk_cell (HS.out.2.1) 0).trans rfl, (blk_cell (HS.out.2.1) 1).trans rfl, (blk_cell (HS.out.2.1) 2).trans rfl, (blk_cell (HS.out.2.1) 3).trans rfl, (blk_cell (HS.out.2.1) 4).trans rfl⟩) (fun hHeld => ?_)
    generalize v3_.drew = v4_ at HS hHeld ⊢
    refine take_ (i := 0) (N := some 8) (v := ?_) (a' := ?_) #[true, false, false, false, false, false, false, false, false] rfl rfl (by kernel_rfl) (fun _ _ _ h => h) (Or.inl ⟨by rfl, ?_⟩) hHeld ?_ ?_
    rotate_left
    · rintro w' ⟨s0, s1, s2, s3, s4⟩
      go_simp
      with_reducible rfl
    rotate_left
    · simp only [Act.put, List.setIfInBounds_toArray, List.set_cons_zero, List.set_cons_succ, i64_w, i32_w]
      rfl
    refine pure_ (i := 2) (N := some 10) (v := ?_) (a' := ?_) #[true, false, true, false, false, false, false, false, false] rfl rfl (by kernel_rfl) (fun _ _ _ h => h) (Or.inl ⟨by rfl, ?_⟩) ?_ ?_
    rotate_left
    · intro w'
      go_simp
      with_reducible rfl
    rotate_left
    · simp only [Act.put, List.setIfInBounds_toArray, List.set_cons_zero, List.set_cons_succ, i64_w, i32_w]
      rfl
    refine take_ (i := 3) (N := some 11) (v := ?_) (a' := ?_) #[true, false, true, true, false, false, false, false, false] rfl rfl (by kernel_rfl) (fun _ _ _ h => h) (Or.inl ⟨by rfl, ?_⟩) hHeld ?_ ?_
    rotate_left
    · rintro w' ⟨s0, s1, s2, s3, s4⟩
      go_simp
      with_reducible rfl
    rotate_left
    · simp only [Act.put, List.setIfInBounds_toArray, List.set_cons_zero, List.set_cons_succ, i64_w, i32_w]
      rfl
    refine one_ (i := 1) (N := some 9) #[true, true, true, true, false, false, false, false, false] rfl rfl (by kernel_rfl) (by decide) (fun K hK => ?_)
    refine goes_ Try.func71 (by kernel_rfl) rfl #[.agg #[.int .i64 r, .int .i64 d, .int .i64 a, .int .i64 g, .int .i64 v]] (by rfl) rfl rfl (by (try simp only [List.map_toArray, List.map_cons, List.map_nil]); first | done | rfl) ?_
    with_reducible refine (classing_wool.calls r d a g v y _ HWO.out).mono ?_
    rintro e v5_ ⟨rfl, hb⟩
    refine ⟨_, rfl, ?_⟩
    have HT : Aside0 (Below w.heap.size w v5_ ∧ v5_.heap[g1]? = some (.cells #[.int .i64 r, .int .i64 d, .int .i64 a, .int .i64 g, .int .i64 v] 55 (0, 0)) ∧ v5_.heap[g2]? = some (.cells #[.int .i64 0, .int .i64 0] 57 (0, 0))) := ⟨⟨below_step HS.out.1 hb, blk_below HS.out.2.1 hb, blk_below HS.out.2.2 hb⟩⟩
    clear HS
    have HS := HT
    clear HT
    refine hK.out _ _ (⟨(blk_cell (HS.out.2.1) 0).trans rfl, (blk_cell (HS.out.2.1) 1).trans rfl, (blk_cell (HS.out.2.1) 2).trans rfl, (blk_cell (HS.out.2.1) 3).trans rfl, (blk_cell (HS.out.2.1) 4).trans rfl⟩) (fun hHeld => ?_)
    clear hK K
    refine norm_ (a' := ?_) ?_ ?_
    rotate_left
    · show Act.put _ (some 9) _ = _
      simp only [Act.put, List.setIfInBounds_toArray, List.set_cons_zero, List.set_cons_succ, i64_w, i32_w]
      rfl
    refine one_ (i := 4) (N := some 12) #[true, true, true, true, true, false, false, false, false] rfl rfl (by kernel_rfl) (by decide) (fun K hK => ?_)
    refine goes_ Try.func70 (by kernel_rfl) rfl #[.int .i64 y, .int .i64 r] (by rfl) rfl rfl (by (try simp only [List.map_toArray, List.map_cons, List.map_nil]); first | done | rfl) ?_
    with_reducible refine (num_Make.calls k2 y r _ _ _ _ HM.out).mono ?_
    rintro e v6_ ⟨rfl, hb⟩
    refine ⟨_, rfl, ?_⟩
    have HT : Aside0 (Below w.heap.size w v6_ ∧ v6_.heap[g1]? = some (.cells #[.int .i64 r, .int .i64 d, .int .i64 a, .int .i64 g, .int .i64 v] 55 (0, 0)) ∧ v6_.heap[g2]? = some (.cells #[.int .i64 0, .int .i64 0] 57 (0, 0))) := ⟨⟨below_step HS.out.1 hb, blk_below HS.out.2.1 hb, blk_below HS.out.2.2 hb⟩⟩
    clear HS
    have HS := HT
    clear HT
    refine hK.out _ _ (⟨(blk_cell (HS.out.2.1) 0).trans rfl, (blk_cell (HS.out.2.1) 1).trans rfl, (blk_cell (HS.out.2.1) 2).trans rfl, (blk_cell (HS.out.2.1) 3).trans rfl, (blk_cell (HS.out.2.1) 4).trans rfl⟩) (fun hHeld => ?_)
    clear hK K
    refine norm_ (a' := ?_) ?_ ?_
    rotate_left
    · show Act.put _ (some 12) _ = _
      simp only [Act.put, List.setIfInBounds_toArray, List.set_cons_zero, List.set_cons_succ, i64_w, i32_w]
      rfl
    refine pure_ (i := 5) (N := some 13) (v := ?_) (a' := ?_) #[true, true, true, true, true, true, false, false, false] rfl rfl (by kernel_rfl) (fun _ _ _ h => h) (Or.inl ⟨by rfl, ?_⟩) ?_ ?_
    rotate_left
    · intro w'
      go_simp
      with_reducible rfl
    rotate_left
    · simp only [Act.put, List.setIfInBounds_toArray, List.set_cons_zero, List.set_cons_succ, i64_w, i32_w]
      rfl
    refine pure_ (i := 6) (N := some 14) (v := ?_) (a' := ?_) #[true, true, true, true, true, true, true, false, false] rfl rfl (by kernel_rfl) (fun _ _ _ h => h) (Or.inl ⟨by rfl, ?_⟩) ?_ ?_
    rotate_left
    · intro w'
      go_simp
      with_reducible rfl
    rotate_left
    · simp only [Act.put, List.setIfInBounds_toArray, List.set_cons_zero, List.set_cons_succ, i64_w, i32_w]
      rfl
    refine last_ (i := 7) (N := none) #[true, true, true, true, true, true, true, true, false] rfl rfl (by kernel_rfl) (by decide) (fun K hK => ?_)
    have cv6__g1_0 : v6_.cell? ⟨g1, 0, none⟩ = some (.int .i64 r) := (blk_cell (HS.out.2.1) 0).trans rfl
    have cv6__g1_1 : v6_.cell? ⟨g1, 1, none⟩ = some (.int .i64 d) := (blk_cell (HS.out.2.1) 1).trans rfl
    have cv6__g1_2 : v6_.cell? ⟨g1, 2, none⟩ = some (.int .i64 a) := (blk_cell (HS.out.2.1) 2).trans rfl
    have cv6__g1_3 : v6_.cell? ⟨g1, 3, none⟩ = some (.int .i64 g) := (blk_cell (HS.out.2.1) 3).trans rfl
    have cv6__g1_4 : v6_.cell? ⟨g1, 4, none⟩ = some (.int .i64 v) := (blk_cell (HS.out.2.1) 4).trans rfl
    have cv6__g2_0 : v6_.cell? ⟨g2, 0, none⟩ = some (.int .i64 0) := (blk_cell (HS.out.2.2) 0).trans rfl
    have zv6__g2_0 : v6_.frozen? ⟨g2, 0, none⟩ = false := blk_frozen (HS.out.2.2) 0
    have cv6__g2_1 : v6_.cell? ⟨g2, 1, none⟩ = some (.int .i64 0) := (blk_cell (HS.out.2.2) 1).trans rfl
    have zv6__g2_1 : v6_.frozen? ⟨g2, 1, none⟩ = false := blk_frozen (HS.out.2.2) 1
    refine skip_ (w1 := ?_) (by rfl) rfl ?_ ?_
    rotate_left
    · go_simp
      rfl
    refine hK.out _ _ ?_
    clear hK K
    refine pure_ (i := 8) (N := some 3) (v := ?_) (a' := ?_) #[true, true, true, true, true, true, true, true, true] rfl rfl (by kernel_rfl) (fun _ _ _ h => h) (Or.inl ⟨by rfl, ?_⟩) ?_ ?_
    rotate_left
    · intro w'
      go_simp
      with_reducible rfl
    rotate_left
    · simp only [Act.put, List.setIfInBounds_toArray, List.set_cons_zero, List.set_cons_succ, i64_w, i32_w]
      rfl
    refine done_ (by kernel_rfl) ?_
    go_wp2_with fail
    refine bodyPost_ret (results_ct rfl _ _ g2 57 #[.int .i64 (p : Int), .int .i64 (q : Int)] (0, 0) _ rfl (by refine blk_put (cs := #[.int .i64 (p : Int), .int .i64 0]) ?_ 1 _ rfl; refine blk_put (cs := #[.int .i64 0, .int .i64 0]) ?_ 0 _ rfl; exact HS.out.2.2) Try.underlying57 rfl (by kernel_rfl)) rfl ?_
    exact ⟨rfl, below_set (below_set (HS.out.1) ge_g2.out) ge_g2.out⟩
end Go.Proofs.Ythkfahkkcjagdaa
namespace Go.Proofs.Ythkfahkkcjagdaa
open PClassingBases Go.RowKit Go.Proofs.YthkfahkkcjagdaaW.PrintWords Go.Proofs.YthkfahkkcjagdaaW.PrintMore Go.Proofs.YthkfahkkcjagdaaW.PrintLast
set_option linter.unusedVariables false
set_option linter.unusedSimpArgs false

theorem evenN_eq (a : Nat) {b : Nat} (hb : 0 < b) : (evenN a b : Int) = evenF (a : Int) (b : Int) := by
  unfold evenN evenF
  have e1 : (a : Int) % (b : Int) = ((a % b : Nat) : Int) := rfl
  have e2 : (a : Int) / (b : Int) = ((a / b : Nat) : Int) := rfl
  rw [e1, e2]
  have hr := Nat.mod_lt a hb
  generalize a % b = r at *
  generalize a / b = q at *
  by_cases h0 : r = 0
  · rw [if_pos h0, if_neg (by omega)]
  · rw [if_neg h0]
    by_cases h1 : b < r + r ∨ (r + r = b ∧ q % 2 = 1)
    · rw [if_pos h1, if_pos (by omega)]; omega
    · rw [if_neg h1, if_neg (by omega)]
theorem evenN_le {a b K : Nat} (hb : 0 < b) (h : a ≤ b * K) : evenN a b ≤ K + 1 := by
  have h1 : a / b ≤ K := Nat.div_le_of_le_mul h
  unfold evenN
  split
  · omega
  · split <;> omega
theorem evenF_two {a b : Int} (hb : 0 < b) : evenF (2 * a) (2 * b) = evenF a b := by
  unfold evenF
  have e1 : 2 * a % (2 * b) = 2 * (a % b) := Int.mul_emod_mul_of_pos a b (by decide)
  have e2 : 2 * a / (2 * b) = a / b := Int.mul_ediv_mul_of_pos a b (by decide)
  rw [e1, e2]
  generalize a % b = r
  generalize a / b = q
  by_cases h1 : b - r < r ∨ (r = b - r ∧ q % 2 = 1)
  · rw [if_pos h1, if_pos (by omega)]
  · rw [if_neg h1, if_neg (by omega)]
/-- What the last line of Yield calls, for a numerator and a denominator. -/
abbrev QC (n d : Int) : Prop :=
  (∀ w, Calls Try.prog 74 #[.int .i64 n] w fun e w' => ∃ A m c, e = .returned (.agg #[.bool false, .slice A m c]) ∧ BD w' (.slice A m c) n.toNat ∧ Below w.heap.size w w') ∧
  (∀ w, Calls Try.prog 74 #[.int .i64 d] w fun e w' => ∃ A m c, e = .returned (.agg #[.bool false, .slice A m c]) ∧ BD w' (.slice A m c) d.toNat ∧ Below w.heap.size w w') ∧
  (∀ {u v : Value} {w : World}, BD w u n.toNat → BD w v d.toNat → Calls Try.prog 79 #[.agg #[.bool false, u], .agg #[.bool false, v], .int .i64 4] w fun e w' => ∃ A m c, e = .returned (.agg #[.bool false, .slice A m c]) ∧ BD w' (.slice A m c) (evenN n.toNat d.toNat) ∧ Below w.heap.size w w') ∧
  (∀ {u : Value} {w : World}, BD w u (evenN n.toNat d.toNat) → Calls Try.prog 78 #[.agg #[.bool false, u], .int .i64 1125899906842624] w fun e w' => e = .returned (.tuple #[.int .i64 (evenF n d), .bool true]) ∧ Below w.heap.size w w')
theorem quot_any {n d : Int} {K : Nat} (hn : 0 ≤ n) (hd : 1 ≤ d) (hn2 : n ≤ 9223372036854775807) (hd2 : d ≤ 9223372036854775807) (h : n.toNat ≤ d.toNat * K) (hK : K ≤ 1000000000000) : QC n d := by
  have e := evenN_eq n.toNat (b := d.toNat) (by omega)
  rw [show ((n.toNat : Nat) : Int) = n by omega, show ((d.toNat : Nat) : Int) = d by omega] at e
  have l := evenN_le (by omega) h
  refine ⟨big_of0 hn hn2, big_of0 (by omega) hd2, fun hu hv => rounded_any hu hv (Sm_small (by omega)) (by omega) (Sm_small9 (by omega)), fun {u w} hu => ?_⟩
  have := big_within0 (most := 1125899906842624) hu (Sm_small (by omega)) (by decide) (by decide) (by omega)
  rwa [e] at this
def rBad (kind wo ve raw : Int) : Bool := decide (kind < 0 ∨ 2 < kind ∨ raw < 1 ∨ 80000 < raw ∨ wo < 0 ∨ ve < 0 ∨ raw < wo ∨ raw - wo < ve)
theorem yield_bad {kind wo ve raw : Int} (h : rBad kind wo ve raw = true) : yieldF kind wo ve raw = 0 ∧ yieldE kind wo ve raw = 2 := by
  have h := of_decide_eq_true h
  unfold yieldF yieldE
  cases hy : yBad wo ve raw with
  | true => exact ⟨rfl, rfl⟩
  | false =>
    have hb : ¬ (raw < 1 ∨ 80000 < raw ∨ wo < 0 ∨ ve < 0 ∨ raw < wo ∨ raw - wo < ve) := by
      unfold yBad at hy; exact of_decide_eq_false hy
    refine ⟨?_, ?_⟩
    · rw [if_neg (show ¬ false = true by decide), if_neg (show ¬ kind = 0 by omega), if_neg (show ¬ kind = 1 by omega), if_neg (show ¬ kind = 2 by omega)]
    · rw [if_neg (show ¬ false = true by decide), if_neg (show ¬ (kind = 0 ∨ kind = 1 ∨ kind = 2) by omega)]
theorem top_eq (wo ve raw : Int) : 10 * (1207 * wo * (78 * raw + 1000 * ve) - 77 * raw * (78 * raw + 1000 * ve) + 4060 * raw * raw) = 2 * (12070 * wo * (39 * raw + 500 * ve) - 770 * raw * (39 * raw + 500 * ve) + 20300 * raw * raw) := by grind
theorem top_den (ve raw : Int) : raw * (78 * raw + 1000 * ve) = 2 * (raw * (39 * raw + 500 * ve)) := by grind
theorem top_le {wo ve raw : Int} (h0 : 1 ≤ raw) (h1 : 0 ≤ wo) (h2 : wo ≤ raw) (h3 : 0 ≤ ve) : 10 * (1207 * wo * (78 * raw + 1000 * ve) - 77 * raw * (78 * raw + 1000 * ve) + 4060 * raw * raw) ≤ raw * (78 * raw + 1000 * ve) * 12591 := by
  have a1 : wo * (78 * raw + 1000 * ve) ≤ raw * (78 * raw + 1000 * ve) := Int.mul_le_mul_of_nonneg_right h2 (by omega)
  have a2 : raw * raw * 78 ≤ raw * (78 * raw + 1000 * ve) := by
    have e : raw * raw * 78 = raw * (78 * raw) := by grind
    rw [e]
    exact Int.mul_le_mul_of_nonneg_left (show 78 * raw ≤ 78 * raw + 1000 * ve by omega) (show 0 ≤ raw by omega)
  have e1 : 1207 * wo * (78 * raw + 1000 * ve) = 1207 * (wo * (78 * raw + 1000 * ve)) := by rw [Int.mul_assoc]
  have e2 : 77 * raw * (78 * raw + 1000 * ve) = 77 * (raw * (78 * raw + 1000 * ve)) := by rw [Int.mul_assoc]
  have e3 : 4060 * raw * raw = 4060 * (raw * raw) := by rw [Int.mul_assoc]
  have a3 : 0 ≤ raw * (78 * raw + 1000 * ve) := Int.mul_nonneg (by omega) (by omega)
  rw [e1, e2, e3]
  generalize wo * (78 * raw + 1000 * ve) = p1 at *
  generalize raw * (78 * raw + 1000 * ve) = p2 at *
  generalize raw * raw = p3 at *
  omega
theorem toNat_le_mul {n d : Int} {K : Nat} (hn : 0 ≤ n) (hd : 0 ≤ d) (h : n ≤ d * K) : n.toNat ≤ d.toNat * K := by
  have : ((d.toNat * K : Nat) : Int) = d * K := by rw [Int.natCast_mul, Int.toNat_of_nonneg hd]
  omega
set_option maxHeartbeats 8000000 in
set_option maxRecDepth 100000 in
theorem ryield_any (w : World) (kind wo ve raw : Int) :
    Calls Try.prog 32 #[.int .i64 kind, .int .i64 wo, .int .i64 ve, .int .i64 raw] w fun e w' => e = .returned (.tuple #[.int .i64 (yieldF kind wo ve raw), .int .i64 (yieldE kind wo ve raw)]) ∧ Below w.heap.size w w' := by
  have HYB := Aside0.mk (@yield_bad kind wo ve raw)
  have HY : Aside0 (yieldF kind wo ve raw = if yBad wo ve raw = true then 0 else if kind = 0 then evenF (wo * 10000) raw else if kind = 1 then evenF ((wo + ve) * 1170000) (raw * 98) else if kind = 2 then topF wo ve raw else 0) := ⟨rfl⟩
  have HYE : Aside0 (yieldE kind wo ve raw = if yBad wo ve raw = true then 2 else if kind = 0 ∨ kind = 1 ∨ kind = 2 then 0 else 2) := ⟨rfl⟩
  obtain ⟨yf, hyf⟩ : ∃ z, z = yieldF kind wo ve raw := ⟨_, rfl⟩
  obtain ⟨ye, hye⟩ : ∃ z, z = yieldE kind wo ve raw := ⟨_, rfl⟩
  rw [← hyf] at HY HYB ⊢
  rw [← hye] at HYE HYB ⊢
  clear hyf hye
  go_enter Try.func32, Try.ntmps32
  go_upto_region 1 with fail
  go_cut [48] from 15 to 48 (fun v w1 => v = .bool (rBad kind wo ve raw) ∧ w = w1)
  case first =>
    by_cases h0 : kind < 0
    · have d0 : decide (kind < 0) = true := decide_eq_true h0
      go_wp2_with fail
      go_meet
      case rel => exact ⟨congrArg Value.bool (by unfold rBad; symm; rw [decide_eq_true_eq]; omega), rfl⟩
    · have d0 : decide (kind < 0) = false := decide_eq_false h0
      by_cases h1 : 2 < kind
      · have d1 : decide (2 < kind) = true := decide_eq_true h1
        go_wp2_with fail
        go_meet
        case rel => exact ⟨congrArg Value.bool (by unfold rBad; symm; rw [decide_eq_true_eq]; omega), rfl⟩
      · have d1 : decide (2 < kind) = false := decide_eq_false h1
        by_cases h2 : raw < 1
        · have d2 : decide (raw < 1) = true := decide_eq_true h2
          go_wp2_with fail
          go_meet
          case rel => exact ⟨congrArg Value.bool (by unfold rBad; symm; rw [decide_eq_true_eq]; omega), rfl⟩
        · have d2 : decide (raw < 1) = false := decide_eq_false h2
          by_cases h3 : 80000 < raw
          · have d3 : decide (80000 < raw) = true := decide_eq_true h3
            go_wp2_with fail
            go_meet
            case rel => exact ⟨congrArg Value.bool (by unfold rBad; symm; rw [decide_eq_true_eq]; omega), rfl⟩
          · have d3 : decide (80000 < raw) = false := decide_eq_false h3
            by_cases h4 : wo < 0
            · have d4 : decide (wo < 0) = true := decide_eq_true h4
              go_wp2_with fail
              go_meet
              case rel => exact ⟨congrArg Value.bool (by unfold rBad; symm; rw [decide_eq_true_eq]; omega), rfl⟩
            · have d4 : decide (wo < 0) = false := decide_eq_false h4
              by_cases h5 : ve < 0
              · have d5 : decide (ve < 0) = true := decide_eq_true h5
                go_wp2_with fail
                go_meet
                case rel => exact ⟨congrArg Value.bool (by unfold rBad; symm; rw [decide_eq_true_eq]; omega), rfl⟩
              · have d5 : decide (ve < 0) = false := decide_eq_false h5
                by_cases h6 : raw < wo
                · have d6 : decide (raw < wo) = true := decide_eq_true h6
                  go_wp2_with fail
                  go_meet
                  case rel => exact ⟨congrArg Value.bool (by unfold rBad; symm; rw [decide_eq_true_eq]; omega), rfl⟩
                · have d6 : decide (raw < wo) = false := decide_eq_false h6
                  by_cases h7 : raw - wo < ve
                  · have d7 : decide (raw - wo < ve) = true := decide_eq_true h7
                    go_wp2_with fail
                    go_meet
                    case rel => exact ⟨congrArg Value.bool (by unfold rBad; symm; rw [decide_eq_true_eq]; omega), rfl⟩
                  · have d7 : decide (raw - wo < ve) = false := decide_eq_false h7
                    go_wp2_with fail
                    go_meet
                    case rel => exact ⟨congrArg Value.bool (by unfold rBad; symm; rw [decide_eq_false_iff_not]; omega), rfl⟩
  case rest =>
  obtain ⟨rfl, rfl⟩ := hcut
  cases hy : rBad kind wo ve raw with
  | true =>
    have HV := Aside0.mk (HYB.out hy)
    clear HY HYE hy HYB
    go_wp2_with fail
    go_ret2
    exact ⟨by rw [HV.out.1, HV.out.2]; rfl, Below.refl _ _⟩
  | false =>
    have hb : ¬ (kind < 0 ∨ 2 < kind ∨ raw < 1 ∨ 80000 < raw ∨ wo < 0 ∨ ve < 0 ∨ raw < wo ∨ raw - wo < ve) := by
      unfold rBad at hy; exact of_decide_eq_false hy
    clear hy HYB
    have hy : yBad wo ve raw = false := by unfold yBad; exact decide_eq_false (by omega)
    have HY0 : Aside0 (yf = if kind = 0 then evenF (wo * 10000) raw else if kind = 1 then evenF ((wo + ve) * 1170000) (raw * 98) else if kind = 2 then topF wo ve raw else 0) := ⟨by rw [HY.out, if_neg (by rw [hy]; simp)]⟩
    have HYE0 : Aside0 (ye = if kind = 0 ∨ kind = 1 ∨ kind = 2 then 0 else 2) := ⟨by rw [HYE.out, if_neg (by rw [hy]; simp)]⟩
    clear HY HYE hy
    have n1 : 1 ≤ raw := by omega
    have n2 : raw ≤ 80000 := by omega
    have n3 : 0 ≤ wo := by omega
    have n4 : wo ≤ raw := by omega
    have n5 : 0 ≤ ve := by omega
    have n6 : wo + ve ≤ raw := by omega
    have n7 : 0 ≤ kind ∧ kind ≤ 2 := by omega
    clear hb
    have HS : Aside0 (Below w.heap.size w w) := ⟨Below.refl _ _⟩
    by_cases k0 : kind = 0
    · have HV : Aside0 (yf = evenF (10000 * wo) (raw) ∧ ye = 0) := ⟨by rw [HY0.out, HYE0.out, if_pos k0, if_pos (.inl k0), Int.mul_comm wo]; exact ⟨rfl, rfl⟩⟩
      have HQ := Aside0.mk (quot_any (n := 10000 * wo) (d := raw) (K := 10000) (by omega) (by omega) (by omega) (by omega) (by omega) (by decide))
      subst k0
      clear HY0 HYE0 n7
      go_wp2_with (first
        | ((with_reducible refine gate_callee (f := 74) rfl ?_); (try (refine gate_guard (by rfl) ?_; dsimp only)); refine goesL_ (some 90) rfl rfl Try.func74 (by kernel_rfl) rfl #[.int .i64 (10000 * wo)] rfl (by (try simp only [List.map_toArray, List.map_cons, List.map_nil]); first | done | rfl) ?_; (with_reducible refine (HQ.out.1 _).mono ?_); rintro e v1_ ⟨A1, m1, c1, rfl, hz_, hb⟩; refine ⟨_, rfl, ?_⟩; have HT : Aside0 (Below w.heap.size w v1_ ∧ BD v1_ (.slice A1 m1 c1) ((10000 * wo).toNat)) := ⟨⟨below_step HS.out hb, hz_⟩⟩; clear HS; have HS := HT; clear HT)
        | ((with_reducible refine gate_callee (f := 74) rfl ?_); (try (refine gate_guard (by rfl) ?_; dsimp only)); refine goesL_ (some 92) rfl rfl Try.func74 (by kernel_rfl) rfl #[.int .i64 (raw)] rfl (by (try simp only [List.map_toArray, List.map_cons, List.map_nil]); first | done | rfl) ?_; (with_reducible refine (HQ.out.2.1 _).mono ?_); rintro e v2_ ⟨A2, m2, c2, rfl, hz_, hb⟩; refine ⟨_, rfl, ?_⟩; have HT : Aside0 (Below w.heap.size w v2_ ∧ BD v2_ (.slice A1 m1 c1) ((10000 * wo).toNat) ∧ BD v2_ (.slice A2 m2 c2) ((raw).toNat)) := ⟨⟨below_step HS.out.1 hb, BD.below HS.out.2 hb, hz_⟩⟩; clear HS; have HS := HT; clear HT)
        | ((with_reducible refine gate_callee (f := 79) rfl ?_); (try (refine gate_guard (by rfl) ?_; dsimp only)); refine goesL_ (some 93) rfl rfl Try.func79 (by kernel_rfl) rfl #[.agg #[.bool false, .slice A1 m1 c1], .agg #[.bool false, .slice A2 m2 c2], .int .i64 4] rfl (by (try simp only [List.map_toArray, List.map_cons, List.map_nil]); first | done | rfl) ?_; (with_reducible refine (HQ.out.2.2.1 (HS.out.2.1) (HS.out.2.2)).mono ?_); rintro e v3_ ⟨A3, m3, c3, rfl, hz_, hb⟩; refine ⟨_, rfl, ?_⟩; have HT : Aside0 (Below w.heap.size w v3_ ∧ BD v3_ (.slice A1 m1 c1) ((10000 * wo).toNat) ∧ BD v3_ (.slice A2 m2 c2) ((raw).toNat) ∧ BD v3_ (.slice A3 m3 c3) (evenN (10000 * wo).toNat (raw).toNat)) := ⟨⟨below_step HS.out.1 hb, BD.below HS.out.2.1 hb, BD.below HS.out.2.2 hb, hz_⟩⟩; clear HS; have HS := HT; clear HT)
        | ((with_reducible refine gate_callee (f := 78) rfl ?_); (try (refine gate_guard (by rfl) ?_; dsimp only)); refine goesL_ (some 94) rfl rfl Try.func78 (by kernel_rfl) rfl #[.agg #[.bool false, .slice A3 m3 c3], .int .i64 1125899906842624] rfl (by (try simp only [List.map_toArray, List.map_cons, List.map_nil]); first | done | rfl) ?_; (with_reducible refine (HQ.out.2.2.2 (HS.out.2.2.2)).mono ?_); rintro e v4_ ⟨rfl, hb⟩; refine ⟨_, rfl, ?_⟩; have HT : Aside0 (Below w.heap.size w v4_ ∧ BD v4_ (.slice A1 m1 c1) ((10000 * wo).toNat) ∧ BD v4_ (.slice A2 m2 c2) ((raw).toNat) ∧ BD v4_ (.slice A3 m3 c3) (evenN (10000 * wo).toNat (raw).toNat)) := ⟨⟨below_step HS.out.1 hb, BD.below HS.out.2.1 hb, BD.below HS.out.2.2.1 hb, BD.below HS.out.2.2.2 hb⟩⟩; clear HS; have HS := HT; clear HT))
      go_ret2
      exact ⟨by rw [HV.out.1, HV.out.2]; rfl, HS.out.1⟩
    · have k0b : (kind == 0) = false := by simpa using k0
      by_cases k1 : kind = 1
      · have HV : Aside0 (yf = evenF (1170000 * (wo + ve)) (98 * raw) ∧ ye = 0) := ⟨by rw [HY0.out, HYE0.out, if_neg k0, if_pos k1, if_pos (.inr (.inl k1)), Int.mul_comm (wo + ve), Int.mul_comm raw]; exact ⟨rfl, rfl⟩⟩
        have HQ := Aside0.mk (quot_any (n := 1170000 * (wo + ve)) (d := 98 * raw) (K := 12000) (by omega) (by omega) (by omega) (by omega) (by omega) (by decide))
        clear k0 k0b
        subst k1
        clear HY0 HYE0 n7
        go_wp2_with (first
          | ((with_reducible refine gate_callee (f := 74) rfl ?_); (try (refine gate_guard (by rfl) ?_; dsimp only)); refine goesL_ (some 90) rfl rfl Try.func74 (by kernel_rfl) rfl #[.int .i64 (1170000 * (wo + ve))] rfl (by (try simp only [List.map_toArray, List.map_cons, List.map_nil]); first | done | rfl) ?_; (with_reducible refine (HQ.out.1 _).mono ?_); rintro e v1_ ⟨A1, m1, c1, rfl, hz_, hb⟩; refine ⟨_, rfl, ?_⟩; have HT : Aside0 (Below w.heap.size w v1_ ∧ BD v1_ (.slice A1 m1 c1) ((1170000 * (wo + ve)).toNat)) := ⟨⟨below_step HS.out hb, hz_⟩⟩; clear HS; have HS := HT; clear HT)
          | ((with_reducible refine gate_callee (f := 74) rfl ?_); (try (refine gate_guard (by rfl) ?_; dsimp only)); refine goesL_ (some 92) rfl rfl Try.func74 (by kernel_rfl) rfl #[.int .i64 (98 * raw)] rfl (by (try simp only [List.map_toArray, List.map_cons, List.map_nil]); first | done | rfl) ?_; (with_reducible refine (HQ.out.2.1 _).mono ?_); rintro e v2_ ⟨A2, m2, c2, rfl, hz_, hb⟩; refine ⟨_, rfl, ?_⟩; have HT : Aside0 (Below w.heap.size w v2_ ∧ BD v2_ (.slice A1 m1 c1) ((1170000 * (wo + ve)).toNat) ∧ BD v2_ (.slice A2 m2 c2) ((98 * raw).toNat)) := ⟨⟨below_step HS.out.1 hb, BD.below HS.out.2 hb, hz_⟩⟩; clear HS; have HS := HT; clear HT)
          | ((with_reducible refine gate_callee (f := 79) rfl ?_); (try (refine gate_guard (by rfl) ?_; dsimp only)); refine goesL_ (some 93) rfl rfl Try.func79 (by kernel_rfl) rfl #[.agg #[.bool false, .slice A1 m1 c1], .agg #[.bool false, .slice A2 m2 c2], .int .i64 4] rfl (by (try simp only [List.map_toArray, List.map_cons, List.map_nil]); first | done | rfl) ?_; (with_reducible refine (HQ.out.2.2.1 (HS.out.2.1) (HS.out.2.2)).mono ?_); rintro e v3_ ⟨A3, m3, c3, rfl, hz_, hb⟩; refine ⟨_, rfl, ?_⟩; have HT : Aside0 (Below w.heap.size w v3_ ∧ BD v3_ (.slice A1 m1 c1) ((1170000 * (wo + ve)).toNat) ∧ BD v3_ (.slice A2 m2 c2) ((98 * raw).toNat) ∧ BD v3_ (.slice A3 m3 c3) (evenN (1170000 * (wo + ve)).toNat (98 * raw).toNat)) := ⟨⟨below_step HS.out.1 hb, BD.below HS.out.2.1 hb, BD.below HS.out.2.2 hb, hz_⟩⟩; clear HS; have HS := HT; clear HT)
          | ((with_reducible refine gate_callee (f := 78) rfl ?_); (try (refine gate_guard (by rfl) ?_; dsimp only)); refine goesL_ (some 94) rfl rfl Try.func78 (by kernel_rfl) rfl #[.agg #[.bool false, .slice A3 m3 c3], .int .i64 1125899906842624] rfl (by (try simp only [List.map_toArray, List.map_cons, List.map_nil]); first | done | rfl) ?_; (with_reducible refine (HQ.out.2.2.2 (HS.out.2.2.2)).mono ?_); rintro e v4_ ⟨rfl, hb⟩; refine ⟨_, rfl, ?_⟩; have HT : Aside0 (Below w.heap.size w v4_ ∧ BD v4_ (.slice A1 m1 c1) ((1170000 * (wo + ve)).toNat) ∧ BD v4_ (.slice A2 m2 c2) ((98 * raw).toNat) ∧ BD v4_ (.slice A3 m3 c3) (evenN (1170000 * (wo + ve)).toNat (98 * raw).toNat)) := ⟨⟨below_step HS.out.1 hb, BD.below HS.out.2.1 hb, BD.below HS.out.2.2.1 hb, BD.below HS.out.2.2.2 hb⟩⟩; clear HS; have HS := HT; clear HT))
        go_ret2
        exact ⟨by rw [HV.out.1, HV.out.2]; rfl, HS.out.1⟩
      · have k1b : (kind == 1) = false := by simpa using k1
        have k2 : kind = 2 := by omega
        have HT : Aside0 (yf = topF wo ve raw ∧ ye = 0) := ⟨by rw [HY0.out, HYE0.out, if_neg k0, if_neg k1, if_pos k2, if_pos (.inr (.inr k2))]; exact ⟨rfl, rfl⟩⟩
        clear k0 k0b k1 k1b HY0 HYE0 n7
        subst k2
        have b1 := mul_bd' (x := 1207 * wo) (a := 1207 * 80000) (y := 78 * raw + 1000 * ve) (b := 1078 * 80000) (by omega) (by omega) (by omega) (by omega)
        have b2 := mul_bd' (x := 77 * raw) (a := 77 * 80000) (y := 78 * raw + 1000 * ve) (b := 1078 * 80000) (by omega) (by omega) (by omega) (by omega)
        have b3 := mul_bd' (x := 4060 * raw) (a := 4060 * 80000) (y := raw) (b := 80000) (by omega) (by omega) (by omega) (by omega)
        have b4 := mul_bd' (x := raw) (a := 80000) (y := 78 * raw + 1000 * ve) (b := 1078 * 80000) (by omega) (by omega) (by omega) (by omega)
        have b5 : 1 ≤ raw * (78 * raw + 1000 * ve) := by
          have := Int.mul_le_mul (a := 1) (b := 1) (c := raw) (d := 78 * raw + 1000 * ve) n1 (by omega) (by omega) (by omega)
          omega
        obtain ⟨b1a, b1b⟩ := b1
        obtain ⟨b2a, b2b⟩ := b2
        obtain ⟨b3a, b3b⟩ := b3
        obtain ⟨b4a, b4b⟩ := b4
        by_cases hneg : 10 * (1207 * wo * (78 * raw + 1000 * ve) - 77 * raw * (78 * raw + 1000 * ve) + 4060 * raw * raw) < 0
        · have dn : decide (10 * (1207 * wo * (78 * raw + 1000 * ve) - 77 * raw * (78 * raw + 1000 * ve) + 4060 * raw * raw) < 0) = true := decide_eq_true hneg
          have HV : Aside0 (yf = 0 ∧ ye = 0) := ⟨by rw [HT.out.1, HT.out.2]; refine ⟨if_pos ?_, rfl⟩; have := top_eq wo ve raw; omega⟩
          clear HT
          go_wp2_with fail
          go_ret2
          exact ⟨by rw [HV.out.1, HV.out.2]; rfl, Below.refl _ _⟩
        · have dn : decide (10 * (1207 * wo * (78 * raw + 1000 * ve) - 77 * raw * (78 * raw + 1000 * ve) + 4060 * raw * raw) < 0) = false := decide_eq_false hneg
          have HV : Aside0 (yf = evenF (10 * (1207 * wo * (78 * raw + 1000 * ve) - 77 * raw * (78 * raw + 1000 * ve) + 4060 * raw * raw)) (raw * (78 * raw + 1000 * ve)) ∧ ye = 0) := ⟨by
            rw [HT.out.1, HT.out.2]
            refine ⟨?_, rfl⟩
            have e1 := top_eq wo ve raw
            have e2 := top_den ve raw
            unfold topF
            rw [if_neg (by omega), e1, e2, evenF_two (by omega)]⟩
          have HQ := Aside0.mk (quot_any (n := 10 * (1207 * wo * (78 * raw + 1000 * ve) - 77 * raw * (78 * raw + 1000 * ve) + 4060 * raw * raw)) (d := raw * (78 * raw + 1000 * ve)) (K := 12591) (by omega) b5 (by omega) (by omega) (toNat_le_mul (by omega) (by omega) (top_le n1 n3 n4 n5)) (by decide))
          clear HT
          go_wp2_with (first
            | ((with_reducible refine gate_callee (f := 74) rfl ?_); (try (refine gate_guard (by rfl) ?_; dsimp only)); refine goesL_ (some 90) rfl rfl Try.func74 (by kernel_rfl) rfl #[.int .i64 (10 * (1207 * wo * (78 * raw + 1000 * ve) - 77 * raw * (78 * raw + 1000 * ve) + 4060 * raw * raw))] rfl (by (try simp only [List.map_toArray, List.map_cons, List.map_nil]); first | done | rfl) ?_; (with_reducible refine (HQ.out.1 _).mono ?_); rintro e v1_ ⟨A1, m1, c1, rfl, hz_, hb⟩; refine ⟨_, rfl, ?_⟩; have HT : Aside0 (Below w.heap.size w v1_ ∧ BD v1_ (.slice A1 m1 c1) ((10 * (1207 * wo * (78 * raw + 1000 * ve) - 77 * raw * (78 * raw + 1000 * ve) + 4060 * raw * raw)).toNat)) := ⟨⟨below_step HS.out hb, hz_⟩⟩; clear HS; have HS := HT; clear HT)
            | ((with_reducible refine gate_callee (f := 74) rfl ?_); (try (refine gate_guard (by rfl) ?_; dsimp only)); refine goesL_ (some 92) rfl rfl Try.func74 (by kernel_rfl) rfl #[.int .i64 (raw * (78 * raw + 1000 * ve))] rfl (by (try simp only [List.map_toArray, List.map_cons, List.map_nil]); first | done | rfl) ?_; (with_reducible refine (HQ.out.2.1 _).mono ?_); rintro e v2_ ⟨A2, m2, c2, rfl, hz_, hb⟩; refine ⟨_, rfl, ?_⟩; have HT : Aside0 (Below w.heap.size w v2_ ∧ BD v2_ (.slice A1 m1 c1) ((10 * (1207 * wo * (78 * raw + 1000 * ve) - 77 * raw * (78 * raw + 1000 * ve) + 4060 * raw * raw)).toNat) ∧ BD v2_ (.slice A2 m2 c2) ((raw * (78 * raw + 1000 * ve)).toNat)) := ⟨⟨below_step HS.out.1 hb, BD.below HS.out.2 hb, hz_⟩⟩; clear HS; have HS := HT; clear HT)
            | ((with_reducible refine gate_callee (f := 79) rfl ?_); (try (refine gate_guard (by rfl) ?_; dsimp only)); refine goesL_ (some 93) rfl rfl Try.func79 (by kernel_rfl) rfl #[.agg #[.bool false, .slice A1 m1 c1], .agg #[.bool false, .slice A2 m2 c2], .int .i64 4] rfl (by (try simp only [List.map_toArray, List.map_cons, List.map_nil]); first | done | rfl) ?_; (with_reducible refine (HQ.out.2.2.1 (HS.out.2.1) (HS.out.2.2)).mono ?_); rintro e v3_ ⟨A3, m3, c3, rfl, hz_, hb⟩; refine ⟨_, rfl, ?_⟩; have HT : Aside0 (Below w.heap.size w v3_ ∧ BD v3_ (.slice A1 m1 c1) ((10 * (1207 * wo * (78 * raw + 1000 * ve) - 77 * raw * (78 * raw + 1000 * ve) + 4060 * raw * raw)).toNat) ∧ BD v3_ (.slice A2 m2 c2) ((raw * (78 * raw + 1000 * ve)).toNat) ∧ BD v3_ (.slice A3 m3 c3) (evenN (10 * (1207 * wo * (78 * raw + 1000 * ve) - 77 * raw * (78 * raw + 1000 * ve) + 4060 * raw * raw)).toNat (raw * (78 * raw + 1000 * ve)).toNat)) := ⟨⟨below_step HS.out.1 hb, BD.below HS.out.2.1 hb, BD.below HS.out.2.2 hb, hz_⟩⟩; clear HS; have HS := HT; clear HT)
            | ((with_reducible refine gate_callee (f := 78) rfl ?_); (try (refine gate_guard (by rfl) ?_; dsimp only)); refine goesL_ (some 94) rfl rfl Try.func78 (by kernel_rfl) rfl #[.agg #[.bool false, .slice A3 m3 c3], .int .i64 1125899906842624] rfl (by (try simp only [List.map_toArray, List.map_cons, List.map_nil]); first | done | rfl) ?_; (with_reducible refine (HQ.out.2.2.2 (HS.out.2.2.2)).mono ?_); rintro e v4_ ⟨rfl, hb⟩; refine ⟨_, rfl, ?_⟩; have HT : Aside0 (Below w.heap.size w v4_ ∧ BD v4_ (.slice A1 m1 c1) ((10 * (1207 * wo * (78 * raw + 1000 * ve) - 77 * raw * (78 * raw + 1000 * ve) + 4060 * raw * raw)).toNat) ∧ BD v4_ (.slice A2 m2 c2) ((raw * (78 * raw + 1000 * ve)).toNat) ∧ BD v4_ (.slice A3 m3 c3) (evenN (10 * (1207 * wo * (78 * raw + 1000 * ve) - 77 * raw * (78 * raw + 1000 * ve) + 4060 * raw * raw)).toNat (raw * (78 * raw + 1000 * ve)).toNat)) := ⟨⟨below_step HS.out.1 hb, BD.below HS.out.2.1 hb, BD.below HS.out.2.2.1 hb, BD.below HS.out.2.2.2 hb⟩⟩; clear HS; have HS := HT; clear HT))
          go_ret2
          exact ⟨by rw [HV.out.1, HV.out.2]; rfl, HS.out.1⟩
end Go.Proofs.Ythkfahkkcjagdaa
namespace Go.Proofs.Ythkfahkkcjagdaa
open PClassingBases Go.RowKit Go.Proofs.YthkfahkkcjagdaaW.PrintWords Go.Proofs.YthkfahkkcjagdaaW.PrintMore Go.Proofs.YthkfahkkcjagdaaW.PrintLast
set_option linter.unusedVariables false
set_option linter.unusedSimpArgs false
theorem i64_of_wf {n : Int} (h : (Lit.int .i64 n).wf = true) : -9223372036854775808 ≤ n ∧ n ≤ 9223372036854775807 := by
  simp [Lit.wf, IntKind.min, IntKind.max, IntKind.signed, IntKind.bits] at h
  omega
set_option maxHeartbeats 8000000 in
set_option maxRecDepth 100000 in
theorem bases_any (w : World) (r d a g v kind wo ve raw : Int) (hw : -9223372036854775808 ≤ wo ∧ wo ≤ 9223372036854775807) (hr : -9223372036854775808 ≤ raw ∧ raw ≤ 9223372036854775807) :
    Calls Try.prog 8 #[.agg #[.int .i64 r, .int .i64 d, .int .i64 a, .int .i64 g, .int .i64 v], .int .i64 kind, .int .i64 wo, .int .i64 ve, .int .i64 raw] w fun e w' => e = .returned (.bool true) ∧ Below w.heap.size w w' := by
  have hu55 := Try.underlying55
  have hu57 := Try.underlying57
  have HA := Aside0.mk (fun w => base_any w r d a g v)
  have HB := Aside0.mk (fun w => rbase_any w r d a g v)
  have HC := Aside0.mk (fun w => yield_any w kind wo ve raw ⟨hw, hr.1, hr.2⟩)
  have HD := Aside0.mk (fun w => ryield_any w kind wo ve raw)
  have HL := Aside0.mk alive_any
  clear hw hr
  generalize baseN r d a g v = bn at *
  generalize baseD r d a g v = bd at *
  generalize baseE r d a g v = be at *
  generalize yieldF kind wo ve raw = yf at *
  generalize yieldE kind wo ve raw = ye at *
  have HS : Aside0 (Below w.heap.size w w) := ⟨Below.refl _ _⟩
  go_enter Try.func8, Try.ntmps8
  go_upto_region 2 with (first
    | ((with_reducible refine gate_dst (N := 5) rfl ?_); (try (refine gate_guard (by rfl) ?_; dsimp only)); refine box_event ?hg (N := 5) ?hd (cs := #[.int .i64 r, .int .i64 d, .int .i64 a, .int .i64 g, .int .i64 v]) (t := 55) ?hr ?_; (case hd => rfl); (case hg => rfl); (case hr => first | (go_simp; done) | (go_simp; rfl)); intro g5 hg_ v1_ hbox hb; have ge_g5 : Aside0 (w.heap.size ≤ g5) := ⟨by rw [hg_]; exact below_size (HS.out)⟩; have HT : Aside0 (Below w.heap.size w v1_ ∧ v1_.heap[g5]? = some (.cells #[.int .i64 r, .int .i64 d, .int .i64 a, .int .i64 g, .int .i64 v] 55 (0, 0))) := ⟨⟨below_step HS.out hb, hbox⟩⟩; clear HS; have HS := HT; clear HT hb hbox hg_; have cv1__g5_0 : v1_.cell? ⟨g5, 0, none⟩ = some (.int .i64 r) := (blk_cell (HS.out.2) 0).trans rfl; have cv1__g5_1 : v1_.cell? ⟨g5, 1, none⟩ = some (.int .i64 d) := (blk_cell (HS.out.2) 1).trans rfl; have cv1__g5_2 : v1_.cell? ⟨g5, 2, none⟩ = some (.int .i64 a) := (blk_cell (HS.out.2) 2).trans rfl; have cv1__g5_3 : v1_.cell? ⟨g5, 3, none⟩ = some (.int .i64 g) := (blk_cell (HS.out.2) 3).trans rfl; have cv1__g5_4 : v1_.cell? ⟨g5, 4, none⟩ = some (.int .i64 v) := (blk_cell (HS.out.2) 4).trans rfl)
    | ((with_reducible refine gate_callee (f := 29) rfl ?_); (try (refine gate_guard (by rfl) ?_; dsimp only)); refine goesL_ (some 21) rfl rfl Try.func29 (by kernel_rfl) rfl #[.agg #[.int .i64 r, .int .i64 d, .int .i64 a, .int .i64 g, .int .i64 v]] rfl (by (try simp only [List.map_toArray, List.map_cons, List.map_nil]); first | done | rfl) ?_; (with_reducible refine (HA.out _).mono ?_); rintro e v2_ ⟨rfl, hb⟩; refine ⟨_, rfl, ?_⟩; have HT : Aside0 (Below w.heap.size w v2_ ∧ v2_.heap[g5]? = some (.cells #[.int .i64 r, .int .i64 d, .int .i64 a, .int .i64 g, .int .i64 v] 55 (0, 0))) := ⟨⟨below_step HS.out.1 hb, blk_below HS.out.2 hb⟩⟩; clear HS; have HS := HT; clear HT; have cv2__g5_0 : v2_.cell? ⟨g5, 0, none⟩ = some (.int .i64 r) := (blk_cell (HS.out.2) 0).trans rfl; have cv2__g5_1 : v2_.cell? ⟨g5, 1, none⟩ = some (.int .i64 d) := (blk_cell (HS.out.2) 1).trans rfl; have cv2__g5_2 : v2_.cell? ⟨g5, 2, none⟩ = some (.int .i64 a) := (blk_cell (HS.out.2) 2).trans rfl; have cv2__g5_3 : v2_.cell? ⟨g5, 3, none⟩ = some (.int .i64 g) := (blk_cell (HS.out.2) 3).trans rfl; have cv2__g5_4 : v2_.cell? ⟨g5, 4, none⟩ = some (.int .i64 v) := (blk_cell (HS.out.2) 4).trans rfl)
    | ((with_reducible refine gate_dst (N := 11) rfl ?_); (try (refine gate_guard (by rfl) ?_; dsimp only)); refine box_event ?hg (N := 11) ?hd (cs := #[.int .i64 0, .int .i64 0]) (t := 57) ?hr ?_; (case hd => rfl); (case hg => rfl); (case hr => first | (go_simp; done) | (go_simp; rfl)); intro g11 hg_ v3_ hbox hb; have ge_g11 : Aside0 (w.heap.size ≤ g11) := ⟨by rw [hg_]; exact below_size (HS.out.1)⟩; have ne_g5_g11 : g5 ≠ g11 := (by rw [hg_]; exact Nat.ne_of_lt (blk_lt (HS.out.2))); have ne_g11_g5 : g11 ≠ g5 := (by rw [hg_]; exact Nat.ne_of_gt (blk_lt (HS.out.2))); have HT : Aside0 (Below w.heap.size w v3_ ∧ v3_.heap[g5]? = some (.cells #[.int .i64 r, .int .i64 d, .int .i64 a, .int .i64 g, .int .i64 v] 55 (0, 0)) ∧ v3_.heap[g11]? = some (.cells #[.int .i64 0, .int .i64 0] 57 (0, 0))) := ⟨⟨below_step HS.out.1 hb, blk_below HS.out.2 hb, hbox⟩⟩; clear HS; have HS := HT; clear HT hb hbox hg_; have cv3__g5_0 : v3_.cell? ⟨g5, 0, none⟩ = some (.int .i64 r) := (blk_cell (HS.out.2.1) 0).trans rfl; have cv3__g5_1 : v3_.cell? ⟨g5, 1, none⟩ = some (.int .i64 d) := (blk_cell (HS.out.2.1) 1).trans rfl; have cv3__g5_2 : v3_.cell? ⟨g5, 2, none⟩ = some (.int .i64 a) := (blk_cell (HS.out.2.1) 2).trans rfl; have cv3__g5_3 : v3_.cell? ⟨g5, 3, none⟩ = some (.int .i64 g) := (blk_cell (HS.out.2.1) 3).trans rfl; have cv3__g5_4 : v3_.cell? ⟨g5, 4, none⟩ = some (.int .i64 v) := (blk_cell (HS.out.2.1) 4).trans rfl; have cv3__g11_0 : v3_.cell? ⟨g11, 0, none⟩ = some (.int .i64 0) := (blk_cell (HS.out.2.2) 0).trans rfl; have zv3__g11_0 : v3_.frozen? ⟨g11, 0, none⟩ = false := blk_frozen (HS.out.2.2) 0; have cv3__g11_1 : v3_.cell? ⟨g11, 1, none⟩ = some (.int .i64 0) := (blk_cell (HS.out.2.2) 1).trans rfl; have zv3__g11_1 : v3_.frozen? ⟨g11, 1, none⟩ = false := blk_frozen (HS.out.2.2) 1))
  obtain ⟨v4_, hw_v4_⟩ : ∃ z_, z_ = ((v3_).setCell ⟨g11, 0, none⟩ (.int .i64 bn)).setCell ⟨g11, 1, none⟩ (.int .i64 bd) := ⟨_, rfl⟩
  have HT : Aside0 (Below w.heap.size w v4_ ∧ v4_.heap[g5]? = some (.cells #[.int .i64 r, .int .i64 d, .int .i64 a, .int .i64 g, .int .i64 v] 55 (0, 0)) ∧ v4_.heap[g11]? = some (.cells #[.int .i64 bn, .int .i64 bd] 57 (0, 0))) := ⟨hw_v4_ ▸ ⟨below_set (below_set (HS.out.1) (ge_g11.out)) (ge_g11.out), blk_far (blk_far (HS.out.2.1) ne_g5_g11 (.int .i64 bn)) ne_g5_g11 (.int .i64 bd), blk_put (blk_put (HS.out.2.2) 0 (.int .i64 bn) (cs' := #[.int .i64 bn, .int .i64 0]) rfl) 1 (.int .i64 bd) (cs' := #[.int .i64 bn, .int .i64 bd]) rfl⟩⟩
  clear HS
  have HS := HT
  clear HT
  rw [← hw_v4_]
  clear hw_v4_
  have cv4__g5_0 : v4_.cell? ⟨g5, 0, none⟩ = some (.int .i64 r) := (blk_cell (HS.out.2.1) 0).trans rfl
  have cv4__g5_1 : v4_.cell? ⟨g5, 1, none⟩ = some (.int .i64 d) := (blk_cell (HS.out.2.1) 1).trans rfl
  have cv4__g5_2 : v4_.cell? ⟨g5, 2, none⟩ = some (.int .i64 a) := (blk_cell (HS.out.2.1) 2).trans rfl
  have cv4__g5_3 : v4_.cell? ⟨g5, 3, none⟩ = some (.int .i64 g) := (blk_cell (HS.out.2.1) 3).trans rfl
  have cv4__g5_4 : v4_.cell? ⟨g5, 4, none⟩ = some (.int .i64 v) := (blk_cell (HS.out.2.1) 4).trans rfl
  have cv4__g11_0 : v4_.cell? ⟨g11, 0, none⟩ = some (.int .i64 bn) := (blk_cell (HS.out.2.2) 0).trans rfl
  have zv4__g11_0 : v4_.frozen? ⟨g11, 0, none⟩ = false := blk_frozen (HS.out.2.2) 0
  have cv4__g11_1 : v4_.cell? ⟨g11, 1, none⟩ = some (.int .i64 bd) := (blk_cell (HS.out.2.2) 1).trans rfl
  have zv4__g11_1 : v4_.frozen? ⟨g11, 1, none⟩ = false := blk_frozen (HS.out.2.2) 1
  go_upto_region 3 with (first
    | ((with_reducible refine gate_callee (f := 30) rfl ?_); (try (refine gate_guard (by rfl) ?_; dsimp only)); refine goesL_ (some 26) rfl rfl Try.func30 (by kernel_rfl) rfl #[.agg #[.int .i64 r, .int .i64 d, .int .i64 a, .int .i64 g, .int .i64 v]] rfl (by (try simp only [List.map_toArray, List.map_cons, List.map_nil]); first | done | rfl) ?_; (with_reducible refine (HB.out _).mono ?_); rintro e v5_ ⟨rfl, hb⟩; refine ⟨_, rfl, ?_⟩; have HT : Aside0 (Below w.heap.size w v5_ ∧ v5_.heap[g5]? = some (.cells #[.int .i64 r, .int .i64 d, .int .i64 a, .int .i64 g, .int .i64 v] 55 (0, 0)) ∧ v5_.heap[g11]? = some (.cells #[.int .i64 bn, .int .i64 bd] 57 (0, 0))) := ⟨⟨below_step HS.out.1 hb, blk_below HS.out.2.1 hb, blk_below HS.out.2.2 hb⟩⟩; clear HS; have HS := HT; clear HT; have cv5__g11_0 : v5_.cell? ⟨g11, 0, none⟩ = some (.int .i64 bn) := (blk_cell (HS.out.2.2) 0).trans rfl; have zv5__g11_0 : v5_.frozen? ⟨g11, 0, none⟩ = false := blk_frozen (HS.out.2.2) 0; have cv5__g11_1 : v5_.cell? ⟨g11, 1, none⟩ = some (.int .i64 bd) := (blk_cell (HS.out.2.2) 1).trans rfl; have zv5__g11_1 : v5_.frozen? ⟨g11, 1, none⟩ = false := blk_frozen (HS.out.2.2) 1)
    | ((with_reducible refine gate_dst (N := 13) rfl ?_); (try (refine gate_guard (by rfl) ?_; dsimp only)); refine box_event ?hg (N := 13) ?hd (cs := #[.int .i64 0, .int .i64 0]) (t := 57) ?hr ?_; (case hd => rfl); (case hg => rfl); (case hr => first | (go_simp; done) | (go_simp; rfl)); intro g13 hg_ v6_ hbox hb; have ge_g13 : Aside0 (w.heap.size ≤ g13) := ⟨by rw [hg_]; exact below_size (HS.out.1)⟩; have ne_g5_g13 : g5 ≠ g13 := (by rw [hg_]; exact Nat.ne_of_lt (blk_lt (HS.out.2.1))); have ne_g13_g5 : g13 ≠ g5 := (by rw [hg_]; exact Nat.ne_of_gt (blk_lt (HS.out.2.1))); have ne_g11_g13 : g11 ≠ g13 := (by rw [hg_]; exact Nat.ne_of_lt (blk_lt (HS.out.2.2))); have ne_g13_g11 : g13 ≠ g11 := (by rw [hg_]; exact Nat.ne_of_gt (blk_lt (HS.out.2.2))); have HT : Aside0 (Below w.heap.size w v6_ ∧ v6_.heap[g5]? = some (.cells #[.int .i64 r, .int .i64 d, .int .i64 a, .int .i64 g, .int .i64 v] 55 (0, 0)) ∧ v6_.heap[g11]? = some (.cells #[.int .i64 bn, .int .i64 bd] 57 (0, 0)) ∧ v6_.heap[g13]? = some (.cells #[.int .i64 0, .int .i64 0] 57 (0, 0))) := ⟨⟨below_step HS.out.1 hb, blk_below HS.out.2.1 hb, blk_below HS.out.2.2 hb, hbox⟩⟩; clear HS; have HS := HT; clear HT hb hbox hg_; have cv6__g11_0 : v6_.cell? ⟨g11, 0, none⟩ = some (.int .i64 bn) := (blk_cell (HS.out.2.2.1) 0).trans rfl; have zv6__g11_0 : v6_.frozen? ⟨g11, 0, none⟩ = false := blk_frozen (HS.out.2.2.1) 0; have cv6__g11_1 : v6_.cell? ⟨g11, 1, none⟩ = some (.int .i64 bd) := (blk_cell (HS.out.2.2.1) 1).trans rfl; have zv6__g11_1 : v6_.frozen? ⟨g11, 1, none⟩ = false := blk_frozen (HS.out.2.2.1) 1; have cv6__g13_0 : v6_.cell? ⟨g13, 0, none⟩ = some (.int .i64 0) := (blk_cell (HS.out.2.2.2) 0).trans rfl; have zv6__g13_0 : v6_.frozen? ⟨g13, 0, none⟩ = false := blk_frozen (HS.out.2.2.2) 0; have cv6__g13_1 : v6_.cell? ⟨g13, 1, none⟩ = some (.int .i64 0) := (blk_cell (HS.out.2.2.2) 1).trans rfl; have zv6__g13_1 : v6_.frozen? ⟨g13, 1, none⟩ = false := blk_frozen (HS.out.2.2.2) 1))
  obtain ⟨v7_, hw_v7_⟩ : ∃ z_, z_ = ((v6_).setCell ⟨g13, 0, none⟩ (.int .i64 bn)).setCell ⟨g13, 1, none⟩ (.int .i64 bd) := ⟨_, rfl⟩
  have HT : Aside0 (Below w.heap.size w v7_ ∧ v7_.heap[g5]? = some (.cells #[.int .i64 r, .int .i64 d, .int .i64 a, .int .i64 g, .int .i64 v] 55 (0, 0)) ∧ v7_.heap[g11]? = some (.cells #[.int .i64 bn, .int .i64 bd] 57 (0, 0)) ∧ v7_.heap[g13]? = some (.cells #[.int .i64 bn, .int .i64 bd] 57 (0, 0))) := ⟨hw_v7_ ▸ ⟨below_set (below_set (HS.out.1) (ge_g13.out)) (ge_g13.out), blk_far (blk_far (HS.out.2.1) ne_g5_g13 (.int .i64 bn)) ne_g5_g13 (.int .i64 bd), blk_far (blk_far (HS.out.2.2.1) ne_g11_g13 (.int .i64 bn)) ne_g11_g13 (.int .i64 bd), blk_put (blk_put (HS.out.2.2.2) 0 (.int .i64 bn) (cs' := #[.int .i64 bn, .int .i64 0]) rfl) 1 (.int .i64 bd) (cs' := #[.int .i64 bn, .int .i64 bd]) rfl⟩⟩
  clear HS
  have HS := HT
  clear HT
  rw [← hw_v7_]
  clear hw_v7_
  have cv7__g11_0 : v7_.cell? ⟨g11, 0, none⟩ = some (.int .i64 bn) := (blk_cell (HS.out.2.2.1) 0).trans rfl
  have zv7__g11_0 : v7_.frozen? ⟨g11, 0, none⟩ = false := blk_frozen (HS.out.2.2.1) 0
  have cv7__g11_1 : v7_.cell? ⟨g11, 1, none⟩ = some (.int .i64 bd) := (blk_cell (HS.out.2.2.1) 1).trans rfl
  have zv7__g11_1 : v7_.frozen? ⟨g11, 1, none⟩ = false := blk_frozen (HS.out.2.2.1) 1
  have cv7__g13_0 : v7_.cell? ⟨g13, 0, none⟩ = some (.int .i64 bn) := (blk_cell (HS.out.2.2.2) 0).trans rfl
  have zv7__g13_0 : v7_.frozen? ⟨g13, 0, none⟩ = false := blk_frozen (HS.out.2.2.2) 0
  have cv7__g13_1 : v7_.cell? ⟨g13, 1, none⟩ = some (.int .i64 bd) := (blk_cell (HS.out.2.2.2) 1).trans rfl
  have zv7__g13_1 : v7_.frozen? ⟨g13, 1, none⟩ = false := blk_frozen (HS.out.2.2.2) 1
  go_wp2_with (first
    | ((with_reducible refine gate_callee (f := 31) rfl ?_); (try (refine gate_guard (by rfl) ?_; dsimp only)); refine goesL_ (some 34) rfl rfl Try.func31 (by kernel_rfl) rfl #[.int .i64 kind, .int .i64 wo, .int .i64 ve, .int .i64 raw] rfl (by (try simp only [List.map_toArray, List.map_cons, List.map_nil]); first | done | rfl) ?_; (with_reducible refine (HC.out _).mono ?_); rintro e v8_ ⟨rfl, hb⟩; refine ⟨_, rfl, ?_⟩; have HT : Aside0 (Below w.heap.size w v8_ ∧ v8_.heap[g5]? = some (.cells #[.int .i64 r, .int .i64 d, .int .i64 a, .int .i64 g, .int .i64 v] 55 (0, 0)) ∧ v8_.heap[g11]? = some (.cells #[.int .i64 bn, .int .i64 bd] 57 (0, 0)) ∧ v8_.heap[g13]? = some (.cells #[.int .i64 bn, .int .i64 bd] 57 (0, 0))) := ⟨⟨below_step HS.out.1 hb, blk_below HS.out.2.1 hb, blk_below HS.out.2.2.1 hb, blk_below HS.out.2.2.2 hb⟩⟩; clear HS; have HS := HT; clear HT; have cv8__g11_0 : v8_.cell? ⟨g11, 0, none⟩ = some (.int .i64 bn) := (blk_cell (HS.out.2.2.1) 0).trans rfl; have zv8__g11_0 : v8_.frozen? ⟨g11, 0, none⟩ = false := blk_frozen (HS.out.2.2.1) 0; have cv8__g11_1 : v8_.cell? ⟨g11, 1, none⟩ = some (.int .i64 bd) := (blk_cell (HS.out.2.2.1) 1).trans rfl; have zv8__g11_1 : v8_.frozen? ⟨g11, 1, none⟩ = false := blk_frozen (HS.out.2.2.1) 1; have cv8__g13_0 : v8_.cell? ⟨g13, 0, none⟩ = some (.int .i64 bn) := (blk_cell (HS.out.2.2.2) 0).trans rfl; have zv8__g13_0 : v8_.frozen? ⟨g13, 0, none⟩ = false := blk_frozen (HS.out.2.2.2) 0; have cv8__g13_1 : v8_.cell? ⟨g13, 1, none⟩ = some (.int .i64 bd) := (blk_cell (HS.out.2.2.2) 1).trans rfl; have zv8__g13_1 : v8_.frozen? ⟨g13, 1, none⟩ = false := blk_frozen (HS.out.2.2.2) 1)
    | ((with_reducible refine gate_callee (f := 32) rfl ?_); (try (refine gate_guard (by rfl) ?_; dsimp only)); refine goesL_ (some 42) rfl rfl Try.func32 (by kernel_rfl) rfl #[.int .i64 kind, .int .i64 wo, .int .i64 ve, .int .i64 raw] rfl (by (try simp only [List.map_toArray, List.map_cons, List.map_nil]); first | done | rfl) ?_; (with_reducible refine (HD.out _).mono ?_); rintro e v9_ ⟨rfl, hb⟩; refine ⟨_, rfl, ?_⟩; have HT : Aside0 (Below w.heap.size w v9_ ∧ v9_.heap[g5]? = some (.cells #[.int .i64 r, .int .i64 d, .int .i64 a, .int .i64 g, .int .i64 v] 55 (0, 0)) ∧ v9_.heap[g11]? = some (.cells #[.int .i64 bn, .int .i64 bd] 57 (0, 0)) ∧ v9_.heap[g13]? = some (.cells #[.int .i64 bn, .int .i64 bd] 57 (0, 0))) := ⟨⟨below_step HS.out.1 hb, blk_below HS.out.2.1 hb, blk_below HS.out.2.2.1 hb, blk_below HS.out.2.2.2 hb⟩⟩; clear HS; have HS := HT; clear HT; have cv9__g11_0 : v9_.cell? ⟨g11, 0, none⟩ = some (.int .i64 bn) := (blk_cell (HS.out.2.2.1) 0).trans rfl; have zv9__g11_0 : v9_.frozen? ⟨g11, 0, none⟩ = false := blk_frozen (HS.out.2.2.1) 0; have cv9__g11_1 : v9_.cell? ⟨g11, 1, none⟩ = some (.int .i64 bd) := (blk_cell (HS.out.2.2.1) 1).trans rfl; have zv9__g11_1 : v9_.frozen? ⟨g11, 1, none⟩ = false := blk_frozen (HS.out.2.2.1) 1; have cv9__g13_0 : v9_.cell? ⟨g13, 0, none⟩ = some (.int .i64 bn) := (blk_cell (HS.out.2.2.2) 0).trans rfl; have zv9__g13_0 : v9_.frozen? ⟨g13, 0, none⟩ = false := blk_frozen (HS.out.2.2.2) 0; have cv9__g13_1 : v9_.cell? ⟨g13, 1, none⟩ = some (.int .i64 bd) := (blk_cell (HS.out.2.2.2) 1).trans rfl; have zv9__g13_1 : v9_.frozen? ⟨g13, 1, none⟩ = false := blk_frozen (HS.out.2.2.2) 1)
    | ((with_reducible refine gate_callee (f := 18) rfl ?_); (try (refine gate_guard (by rfl) ?_; dsimp only)); refine goesL_ (some 64) rfl rfl Try.func18 (by kernel_rfl) rfl #[] rfl (by (try simp only [List.map_toArray, List.map_cons, List.map_nil]); first | done | rfl) ?_; (with_reducible refine (HL.out _).mono ?_); rintro e v10_ ⟨rfl, hb⟩; refine ⟨_, rfl, ?_⟩; have HT : Aside0 (Below w.heap.size w v10_ ∧ v10_.heap[g5]? = some (.cells #[.int .i64 r, .int .i64 d, .int .i64 a, .int .i64 g, .int .i64 v] 55 (0, 0)) ∧ v10_.heap[g11]? = some (.cells #[.int .i64 bn, .int .i64 bd] 57 (0, 0)) ∧ v10_.heap[g13]? = some (.cells #[.int .i64 bn, .int .i64 bd] 57 (0, 0))) := ⟨⟨below_step HS.out.1 hb, blk_below HS.out.2.1 hb, blk_below HS.out.2.2.1 hb, blk_below HS.out.2.2.2 hb⟩⟩; clear HS; have HS := HT; clear HT; have cv10__g11_0 : v10_.cell? ⟨g11, 0, none⟩ = some (.int .i64 bn) := (blk_cell (HS.out.2.2.1) 0).trans rfl; have zv10__g11_0 : v10_.frozen? ⟨g11, 0, none⟩ = false := blk_frozen (HS.out.2.2.1) 0; have cv10__g11_1 : v10_.cell? ⟨g11, 1, none⟩ = some (.int .i64 bd) := (blk_cell (HS.out.2.2.1) 1).trans rfl; have zv10__g11_1 : v10_.frozen? ⟨g11, 1, none⟩ = false := blk_frozen (HS.out.2.2.1) 1; have cv10__g13_0 : v10_.cell? ⟨g13, 0, none⟩ = some (.int .i64 bn) := (blk_cell (HS.out.2.2.2) 0).trans rfl; have zv10__g13_0 : v10_.frozen? ⟨g13, 0, none⟩ = false := blk_frozen (HS.out.2.2.2) 0; have cv10__g13_1 : v10_.cell? ⟨g13, 1, none⟩ = some (.int .i64 bd) := (blk_cell (HS.out.2.2.2) 1).trans rfl; have zv10__g13_1 : v10_.frozen? ⟨g13, 1, none⟩ = false := blk_frozen (HS.out.2.2.2) 1))
  go_ret
  exact ⟨rfl, HS.out.1⟩
end Go.Proofs.Ythkfahkkcjagdaa
