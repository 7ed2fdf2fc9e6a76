/- Texts of this claim and words of the kit's print, trimmed to what it uses and joined. -/
import Derived.Test.YthkfahkkcjagdaaZhMBc
import Derived.Test.YthkfahkkcjagdaaZhW
import Derived.Test.YthkfahkkcjagdaaZhD2
section
namespace Go.Proofs.Ythkfahkkcjagdaa
open PClassingBases Go.RowKit Go.Proofs.YthkfahkkcjagdaaW.PrintWords Go.Proofs.YthkfahkkcjagdaaW.PrintMore Go.Proofs.YthkfahkkcjagdaaW.PrintLast
set_option linter.unusedVariables false
set_option linter.unusedSimpArgs false

/-- The quotient, rounded half to even. -/
def evenN (a b : Nat) : Nat := if a % b = 0 then a / b else if b < a % b + a % b ∨ (a % b + a % b = b ∧ a / b % 2 = 1) then a / b + 1 else a / b
theorem big_zero0 {a : Nat} {u : Value} {w : World} {z : Bool} (hz : decide (a = 0) = z) (hu : BD w u a) :
    Calls Try.prog 116 #[.agg #[.bool false, u]] w fun e w' => e = .returned (.bool z) ∧ Below w.heap.size w w' := hz ▸ big_zero false hu
theorem big_of0 {x : Int} (h1 : 0 ≤ x) (h2 : x ≤ 9223372036854775807) (w : World) :
    Calls Try.prog 74 #[.int .i64 x] w fun e w' => ∃ A m c, e = .returned (.agg #[.bool false, .slice A m c]) ∧ BD w' (.slice A m c) x.toNat ∧ Below w.heap.size w w' := by
  refine (big_of x w (by omega) h2).mono ?_
  rintro e w' ⟨v, rfl, h, hb⟩
  obtain ⟨A, m, c, rfl⟩ := h.slice
  refine ⟨A, m, c, ?_, ?_, hb⟩
  · rw [decide_eq_false (by omega)]
  · rwa [show x.toNat = x.natAbs by omega]
theorem Sm_add {a b : Nat} (h : (dig a).length ≤ 99) (hb : b ≤ a) : Sm (a + b) := by
  have h1 := val_lt (Rng_dig a)
  rw [val_dig] at h1
  refine dig_len_lt ?_
  have h2 : 10000 ^ (dig a).length ≤ 10000 ^ 99 := Nat.pow_le_pow_right (by decide) h
  rw [Nat.pow_succ 10000 99]
  generalize 10000 ^ 99 = P at *
  generalize 10000 ^ (dig a).length = P2 at *
  omega
/-- The first digit, and that there is one. -/
theorem BD.first {w : World} {A : Option Addr} {m c n : Nat} (h : BD w (.slice A m c) n) : (n = 0 → m = 0) ∧ (0 < n → 0 < m ∧ ∃ ad, A = some ad ∧ w.cell? ad = some (.int .i64 ((n % 10000 : Nat) : Int))) := by
  obtain ⟨A', c', e, hc, hr⟩ := h
  simp only [Value.slice.injEq] at e
  obtain ⟨rfl, rfl, rfl⟩ := e
  refine ⟨fun h0 => dig_len0.2 h0, fun h0 => ?_⟩
  have hl : 0 < (dig n).length := by
    have := fun h => (@dig_len0 n).1 h
    omega
  obtain ⟨ad, cc, h1, h2, h3, h4⟩ := Kd.C_get hr 0 0 (Int.le_refl _) (by omega)
  refine ⟨hl, ad, h1, ?_⟩
  have h5 : (dig n).getD (Int.toNat 0) 0 = ((n % 10000 : Nat) : Int) := by rw [dig_pos h0]; rfl
  rw [h5] at h3
  have h6 : cc = [.int .i64 ((n % 10000 : Nat) : Int)] := h3
  have := h4 0 _ (by rw [h6]; rfl)
  have e : ad.add (Int.toNat 0 * (Kd.int .i64).sz + 0) = ad := by
    show ad.add 0 = ad
    simp [Addr.add]
  rwa [e] at this
set_option maxHeartbeats 8000000 in
set_option maxRecDepth 100000 in
theorem rounded_any {a b : Nat} {u v : Value} {w : World} (hu : BD w u a) (hv : BD w v b) (ha : Sm a) (h0 : 0 < b) (hb9 : (dig b).length ≤ 99) :
    Calls Try.prog 79 #[.agg #[.bool false, u], .agg #[.bool false, v], .int .i64 4] w fun e w' => ∃ A m c, e = .returned (.agg #[.bool false, .slice A m c]) ∧ BD w' (.slice A m c) (evenN a b) ∧ Below w.heap.size w w' := by
  have hb : Sm b := Nat.le_trans hb9 (by decide)
  have hu117 := Try.underlying117
  have HSS : Aside0 (Sm (a % b + a % b)) := ⟨Sm_add (Nat.le_trans (dig_mono (Nat.le_of_lt (Nat.mod_lt a h0))) hb9) (Nat.le_refl _)⟩
  have HS1 : Aside0 (Sm (Int.toNat 1)) := ⟨Nat.le_trans (dig_len_lt (n := Int.toNat 1) (e := 1) (by decide)) (by decide)⟩
  have HSQ := Aside0.mk (Sm.of_le (Nat.div_le_self a b) ha)
  have HSR := Aside0.mk (Sm.of_le (Nat.le_of_lt (Nat.mod_lt a h0)) hb)
  have HA := Aside0.mk ha
  have HBB := Aside0.mk hb
  have H0 := Aside0.mk h0
  obtain ⟨z, hz⟩ : ∃ z, decide (a % b = 0) = z := ⟨_, rfl⟩
  have HZ := Aside0.mk hz
  obtain ⟨s, hs⟩ : ∃ s, sg (a % b + a % b) b = s := ⟨_, rfl⟩
  have HC := Aside0.mk hs
  clear ha hb h0 hb9 hz hs
  obtain ⟨A, m, c, rfl⟩ := hu.slice
  obtain ⟨A2, m2, c2, rfl⟩ := hv.slice
  have HU := Aside0.mk hu
  have HV := Aside0.mk hv
  have HS : Aside0 (Below w.heap.size w w) := ⟨Below.refl _ _⟩
  clear hu hv
  go_enter Try.func79, Try.ntmps79
  go_upto_region 4 with (first
    | ((with_reducible refine gate_dst (N := 3) rfl ?_); (try (refine gate_guard (by rfl) ?_; dsimp only)); refine box_event ?hg (N := 3) ?hd (cs := #[.bool false, .slice A m c]) (t := 117) ?hr ?_; (case hd => rfl); (case hg => rfl); (case hr => first | (go_simp; done) | (go_simp; rfl)); intro g3 hg_ v1_ hbox hb; have ge_g3 : Aside0 (w.heap.size ≤ g3) := ⟨by rw [hg_]; exact below_size (HS.out)⟩; have HT : Aside0 (Below w.heap.size w v1_ ∧ v1_.heap[g3]? = some (.cells #[.bool false, .slice A m c] 117 (0, 0))) := ⟨⟨below_step HS.out hb, hbox⟩⟩; clear HS; have HS := HT; clear HT hb hbox hg_; have cv1__g3_0 : v1_.cell? ⟨g3, 0, none⟩ = some (.bool false) := (blk_cell (HS.out.2) 0).trans rfl; have cv1__g3_1 : v1_.cell? ⟨g3, 1, none⟩ = some (.slice A m c) := (blk_cell (HS.out.2) 1).trans rfl)
    | ((with_reducible refine gate_dst (N := 4) rfl ?_); (try (refine gate_guard (by rfl) ?_; dsimp only)); refine box_event ?hg (N := 4) ?hd (cs := #[.bool false, .slice A2 m2 c2]) (t := 117) ?hr ?_; (case hd => rfl); (case hg => rfl); (case hr => first | (go_simp; done) | (go_simp; rfl)); intro g4 hg_ v2_ hbox hb; have ge_g4 : Aside0 (w.heap.size ≤ g4) := ⟨by rw [hg_]; exact below_size (HS.out.1)⟩; have ne_g3_g4 : g3 ≠ g4 := (by rw [hg_]; exact Nat.ne_of_lt (blk_lt (HS.out.2))); have ne_g4_g3 : g4 ≠ g3 := (by rw [hg_]; exact Nat.ne_of_gt (blk_lt (HS.out.2))); have HT : Aside0 (Below w.heap.size w v2_ ∧ v2_.heap[g3]? = some (.cells #[.bool false, .slice A m c] 117 (0, 0)) ∧ v2_.heap[g4]? = some (.cells #[.bool false, .slice A2 m2 c2] 117 (0, 0))) := ⟨⟨below_step HS.out.1 hb, blk_below HS.out.2 hb, hbox⟩⟩; clear HS; have HS := HT; clear HT hb hbox hg_; have cv2__g3_0 : v2_.cell? ⟨g3, 0, none⟩ = some (.bool false) := (blk_cell (HS.out.2.1) 0).trans rfl; have cv2__g3_1 : v2_.cell? ⟨g3, 1, none⟩ = some (.slice A m c) := (blk_cell (HS.out.2.1) 1).trans rfl; have cv2__g4_0 : v2_.cell? ⟨g4, 0, none⟩ = some (.bool false) := (blk_cell (HS.out.2.2) 0).trans rfl; have cv2__g4_1 : v2_.cell? ⟨g4, 1, none⟩ = some (.slice A2 m2 c2) := (blk_cell (HS.out.2.2) 1).trans rfl)
    | ((with_reducible refine gate_dst (N := 6) rfl ?_); (try (refine gate_guard (by rfl) ?_; dsimp only)); refine box_event ?hg (N := 6) ?hd (cs := #[.bool false, .slice none 0 0]) (t := 117) ?hr ?_; (case hd => rfl); (case hg => rfl); (case hr => first | (go_simp; done) | (go_simp; rfl)); intro g6 hg_ v3_ hbox hb; have ge_g6 : Aside0 (w.heap.size ≤ g6) := ⟨by rw [hg_]; exact below_size (HS.out.1)⟩; have ne_g3_g6 : g3 ≠ g6 := (by rw [hg_]; exact Nat.ne_of_lt (blk_lt (HS.out.2.1))); have ne_g6_g3 : g6 ≠ g3 := (by rw [hg_]; exact Nat.ne_of_gt (blk_lt (HS.out.2.1))); have ne_g4_g6 : g4 ≠ g6 := (by rw [hg_]; exact Nat.ne_of_lt (blk_lt (HS.out.2.2))); have ne_g6_g4 : g6 ≠ g4 := (by rw [hg_]; exact Nat.ne_of_gt (blk_lt (HS.out.2.2))); have HT : Aside0 (Below w.heap.size w v3_ ∧ v3_.heap[g3]? = some (.cells #[.bool false, .slice A m c] 117 (0, 0)) ∧ v3_.heap[g4]? = some (.cells #[.bool false, .slice A2 m2 c2] 117 (0, 0)) ∧ v3_.heap[g6]? = some (.cells #[.bool false, .slice none 0 0] 117 (0, 0))) := ⟨⟨below_step HS.out.1 hb, blk_below HS.out.2.1 hb, blk_below HS.out.2.2 hb, hbox⟩⟩; clear HS; have HS := HT; clear HT hb hbox hg_; have cv3__g3_0 : v3_.cell? ⟨g3, 0, none⟩ = some (.bool false) := (blk_cell (HS.out.2.1) 0).trans rfl; have cv3__g3_1 : v3_.cell? ⟨g3, 1, none⟩ = some (.slice A m c) := (blk_cell (HS.out.2.1) 1).trans rfl; have cv3__g4_0 : v3_.cell? ⟨g4, 0, none⟩ = some (.bool false) := (blk_cell (HS.out.2.2.1) 0).trans rfl; have cv3__g4_1 : v3_.cell? ⟨g4, 1, none⟩ = some (.slice A2 m2 c2) := (blk_cell (HS.out.2.2.1) 1).trans rfl; have cv3__g6_0 : v3_.cell? ⟨g6, 0, none⟩ = some (.bool false) := (blk_cell (HS.out.2.2.2) 0).trans rfl; have zv3__g6_0 : v3_.frozen? ⟨g6, 0, none⟩ = false := blk_frozen (HS.out.2.2.2) 0; have cv3__g6_1 : v3_.cell? ⟨g6, 1, none⟩ = some (.slice none 0 0) := (blk_cell (HS.out.2.2.2) 1).trans rfl; have zv3__g6_1 : v3_.frozen? ⟨g6, 1, none⟩ = false := blk_frozen (HS.out.2.2.2) 1)
    | ((with_reducible refine gate_callee (f := 115) rfl ?_); (try (refine gate_guard (by rfl) ?_; dsimp only)); refine goesL_ (some 20) rfl rfl Try.func115 (by kernel_rfl) rfl #[.agg #[.bool false, .slice A m c], .agg #[.bool false, .slice A2 m2 c2]] rfl (by (try simp only [List.map_toArray, List.map_cons, List.map_nil]); first | done | rfl) ?_; (with_reducible refine (big_over0 H0.out (BD.below HU.out (HS.out.1)) (BD.below HV.out (HS.out.1)) HA.out HBB.out).mono ?_); rintro e v4_ ⟨Aq, mq, cq, Ar, mr, cr, rfl, hq_, hr_, hb⟩; refine ⟨_, rfl, ?_⟩; have HT : Aside0 (Below w.heap.size w v4_ ∧ v4_.heap[g3]? = some (.cells #[.bool false, .slice A m c] 117 (0, 0)) ∧ v4_.heap[g4]? = some (.cells #[.bool false, .slice A2 m2 c2] 117 (0, 0)) ∧ v4_.heap[g6]? = some (.cells #[.bool false, .slice none 0 0] 117 (0, 0))) := ⟨⟨below_step HS.out.1 hb, blk_below HS.out.2.1 hb, blk_below HS.out.2.2.1 hb, blk_below HS.out.2.2.2 hb⟩⟩; clear HS; have HS := HT; clear HT; have cv4__g3_0 : v4_.cell? ⟨g3, 0, none⟩ = some (.bool false) := (blk_cell (HS.out.2.1) 0).trans rfl; have cv4__g3_1 : v4_.cell? ⟨g3, 1, none⟩ = some (.slice A m c) := (blk_cell (HS.out.2.1) 1).trans rfl; have cv4__g4_0 : v4_.cell? ⟨g4, 0, none⟩ = some (.bool false) := (blk_cell (HS.out.2.2.1) 0).trans rfl; have cv4__g4_1 : v4_.cell? ⟨g4, 1, none⟩ = some (.slice A2 m2 c2) := (blk_cell (HS.out.2.2.1) 1).trans rfl; have cv4__g6_0 : v4_.cell? ⟨g6, 0, none⟩ = some (.bool false) := (blk_cell (HS.out.2.2.2) 0).trans rfl; have zv4__g6_0 : v4_.frozen? ⟨g6, 0, none⟩ = false := blk_frozen (HS.out.2.2.2) 0; have cv4__g6_1 : v4_.cell? ⟨g6, 1, none⟩ = some (.slice none 0 0) := (blk_cell (HS.out.2.2.2) 1).trans rfl; have zv4__g6_1 : v4_.frozen? ⟨g6, 1, none⟩ = false := blk_frozen (HS.out.2.2.2) 1; have HQ := Aside0.mk hq_; have HR := Aside0.mk hr_; clear hq_ hr_; have HT := Aside0.mk (And.intro HS.out (Below.refl v4_.heap.size v4_)); clear HT; have HT : Aside0 (Below w.heap.size w v4_ ∧ v4_.heap[g3]? = some (.cells #[.bool false, .slice A m c] 117 (0, 0)) ∧ v4_.heap[g4]? = some (.cells #[.bool false, .slice A2 m2 c2] 117 (0, 0)) ∧ v4_.heap[g6]? = some (.cells #[.bool false, .slice none 0 0] 117 (0, 0)) ∧ Below v4_.heap.size v4_ v4_) := ⟨⟨HS.out.1, HS.out.2.1, HS.out.2.2.1, HS.out.2.2.2, Below.refl _ _⟩⟩; clear HS; have HS := HT; clear HT)
    | ((with_reducible refine gate_dst (N := 7) rfl ?_); (try (refine gate_guard (by rfl) ?_; dsimp only)); refine box_event ?hg (N := 7) ?hd (cs := #[.bool false, .slice none 0 0]) (t := 117) ?hr ?_; (case hd => rfl); (case hg => rfl); (case hr => first | (go_simp; done) | (go_simp; rfl)); intro g7 hg_ v5_ hbox hb; have ge_g7 : Aside0 (w.heap.size ≤ g7) := ⟨by rw [hg_]; exact below_size (HS.out.1)⟩; have gx_v4__g7 : Aside0 (v4_.heap.size ≤ g7) := ⟨by rw [hg_]; exact below_size (HS.out.2.2.2.2)⟩; have ne_g3_g7 : g3 ≠ g7 := (by rw [hg_]; exact Nat.ne_of_lt (blk_lt (HS.out.2.1))); have ne_g7_g3 : g7 ≠ g3 := (by rw [hg_]; exact Nat.ne_of_gt (blk_lt (HS.out.2.1))); have ne_g4_g7 : g4 ≠ g7 := (by rw [hg_]; exact Nat.ne_of_lt (blk_lt (HS.out.2.2.1))); have ne_g7_g4 : g7 ≠ g4 := (by rw [hg_]; exact Nat.ne_of_gt (blk_lt (HS.out.2.2.1))); have ne_g6_g7 : g6 ≠ g7 := (by rw [hg_]; exact Nat.ne_of_lt (blk_lt (HS.out.2.2.2.1))); have ne_g7_g6 : g7 ≠ g6 := (by rw [hg_]; exact Nat.ne_of_gt (blk_lt (HS.out.2.2.2.1))); have HT : Aside0 (Below w.heap.size w v5_ ∧ v5_.heap[g3]? = some (.cells #[.bool false, .slice A m c] 117 (0, 0)) ∧ v5_.heap[g4]? = some (.cells #[.bool false, .slice A2 m2 c2] 117 (0, 0)) ∧ v5_.heap[g6]? = some (.cells #[.bool false, .slice none 0 0] 117 (0, 0)) ∧ Below v4_.heap.size v4_ v5_ ∧ v5_.heap[g7]? = some (.cells #[.bool false, .slice none 0 0] 117 (0, 0))) := ⟨⟨below_step HS.out.1 hb, blk_below HS.out.2.1 hb, blk_below HS.out.2.2.1 hb, blk_below HS.out.2.2.2.1 hb, below_step HS.out.2.2.2.2 hb, hbox⟩⟩; clear HS; have HS := HT; clear HT hb hbox hg_; have cv5__g4_0 : v5_.cell? ⟨g4, 0, none⟩ = some (.bool false) := (blk_cell (HS.out.2.2.1) 0).trans rfl; have cv5__g4_1 : v5_.cell? ⟨g4, 1, none⟩ = some (.slice A2 m2 c2) := (blk_cell (HS.out.2.2.1) 1).trans rfl; have cv5__g6_0 : v5_.cell? ⟨g6, 0, none⟩ = some (.bool false) := (blk_cell (HS.out.2.2.2.1) 0).trans rfl; have zv5__g6_0 : v5_.frozen? ⟨g6, 0, none⟩ = false := blk_frozen (HS.out.2.2.2.1) 0; have cv5__g6_1 : v5_.cell? ⟨g6, 1, none⟩ = some (.slice none 0 0) := (blk_cell (HS.out.2.2.2.1) 1).trans rfl; have zv5__g6_1 : v5_.frozen? ⟨g6, 1, none⟩ = false := blk_frozen (HS.out.2.2.2.1) 1; have cv5__g7_0 : v5_.cell? ⟨g7, 0, none⟩ = some (.bool false) := (blk_cell (HS.out.2.2.2.2.2) 0).trans rfl; have zv5__g7_0 : v5_.frozen? ⟨g7, 0, none⟩ = false := blk_frozen (HS.out.2.2.2.2.2) 0; have cv5__g7_1 : v5_.cell? ⟨g7, 1, none⟩ = some (.slice none 0 0) := (blk_cell (HS.out.2.2.2.2.2) 1).trans rfl; have zv5__g7_1 : v5_.frozen? ⟨g7, 1, none⟩ = false := blk_frozen (HS.out.2.2.2.2.2) 1)
    | ((with_reducible refine gate_dst (N := 8) rfl ?_); (try (refine gate_guard (by rfl) ?_; dsimp only)); refine box_event ?hg (N := 8) ?hd (cs := #[.bool false, .slice none 0 0]) (t := 117) ?hr ?_; (case hd => rfl); (case hg => rfl); (case hr => first | (go_simp; done) | (go_simp; rfl)); intro g8 hg_ v6_ hbox hb; have ge_g8 : Aside0 (w.heap.size ≤ g8) := ⟨by rw [hg_]; exact below_size (HS.out.1)⟩; have gx_v4__g8 : Aside0 (v4_.heap.size ≤ g8) := ⟨by rw [hg_]; exact below_size (HS.out.2.2.2.2.1)⟩; have ne_g3_g8 : g3 ≠ g8 := (by rw [hg_]; exact Nat.ne_of_lt (blk_lt (HS.out.2.1))); have ne_g8_g3 : g8 ≠ g3 := (by rw [hg_]; exact Nat.ne_of_gt (blk_lt (HS.out.2.1))); have ne_g4_g8 : g4 ≠ g8 := (by rw [hg_]; exact Nat.ne_of_lt (blk_lt (HS.out.2.2.1))); have ne_g8_g4 : g8 ≠ g4 := (by rw [hg_]; exact Nat.ne_of_gt (blk_lt (HS.out.2.2.1))); have ne_g6_g8 : g6 ≠ g8 := (by rw [hg_]; exact Nat.ne_of_lt (blk_lt (HS.out.2.2.2.1))); have ne_g8_g6 : g8 ≠ g6 := (by rw [hg_]; exact Nat.ne_of_gt (blk_lt (HS.out.2.2.2.1))); have ne_g7_g8 : g7 ≠ g8 := (by rw [hg_]; exact Nat.ne_of_lt (blk_lt (HS.out.2.2.2.2.2))); have ne_g8_g7 : g8 ≠ g7 := (by rw [hg_]; exact Nat.ne_of_gt (blk_lt (HS.out.2.2.2.2.2))); have HT : Aside0 (Below w.heap.size w v6_ ∧ v6_.heap[g3]? = some (.cells #[.bool false, .slice A m c] 117 (0, 0)) ∧ v6_.heap[g4]? = some (.cells #[.bool false, .slice A2 m2 c2] 117 (0, 0)) ∧ v6_.heap[g6]? = some (.cells #[.bool false, .slice none 0 0] 117 (0, 0)) ∧ Below v4_.heap.size v4_ v6_ ∧ v6_.heap[g7]? = some (.cells #[.bool false, .slice none 0 0] 117 (0, 0)) ∧ v6_.heap[g8]? = some (.cells #[.bool false, .slice none 0 0] 117 (0, 0))) := ⟨⟨below_step HS.out.1 hb, blk_below HS.out.2.1 hb, blk_below HS.out.2.2.1 hb, blk_below HS.out.2.2.2.1 hb, below_step HS.out.2.2.2.2.1 hb, blk_below HS.out.2.2.2.2.2 hb, hbox⟩⟩; clear HS; have HS := HT; clear HT hb hbox hg_; have cv6__g4_0 : v6_.cell? ⟨g4, 0, none⟩ = some (.bool false) := (blk_cell (HS.out.2.2.1) 0).trans rfl; have cv6__g4_1 : v6_.cell? ⟨g4, 1, none⟩ = some (.slice A2 m2 c2) := (blk_cell (HS.out.2.2.1) 1).trans rfl; have cv6__g6_0 : v6_.cell? ⟨g6, 0, none⟩ = some (.bool false) := (blk_cell (HS.out.2.2.2.1) 0).trans rfl; have zv6__g6_0 : v6_.frozen? ⟨g6, 0, none⟩ = false := blk_frozen (HS.out.2.2.2.1) 0; have cv6__g6_1 : v6_.cell? ⟨g6, 1, none⟩ = some (.slice none 0 0) := (blk_cell (HS.out.2.2.2.1) 1).trans rfl; have zv6__g6_1 : v6_.frozen? ⟨g6, 1, none⟩ = false := blk_frozen (HS.out.2.2.2.1) 1; have cv6__g7_0 : v6_.cell? ⟨g7, 0, none⟩ = some (.bool false) := (blk_cell (HS.out.2.2.2.2.2.1) 0).trans rfl; have zv6__g7_0 : v6_.frozen? ⟨g7, 0, none⟩ = false := blk_frozen (HS.out.2.2.2.2.2.1) 0; have cv6__g7_1 : v6_.cell? ⟨g7, 1, none⟩ = some (.slice none 0 0) := (blk_cell (HS.out.2.2.2.2.2.1) 1).trans rfl; have zv6__g7_1 : v6_.frozen? ⟨g7, 1, none⟩ = false := blk_frozen (HS.out.2.2.2.2.2.1) 1; have cv6__g8_0 : v6_.cell? ⟨g8, 0, none⟩ = some (.bool false) := (blk_cell (HS.out.2.2.2.2.2.2) 0).trans rfl; have zv6__g8_0 : v6_.frozen? ⟨g8, 0, none⟩ = false := blk_frozen (HS.out.2.2.2.2.2.2) 0; have cv6__g8_1 : v6_.cell? ⟨g8, 1, none⟩ = some (.slice none 0 0) := (blk_cell (HS.out.2.2.2.2.2.2) 1).trans rfl; have zv6__g8_1 : v6_.frozen? ⟨g8, 1, none⟩ = false := blk_frozen (HS.out.2.2.2.2.2.2) 1))
  obtain ⟨v7_, hw_v7_⟩ : ∃ z_, z_ = ((v6_).setCell ⟨g7, 0, none⟩ (.bool false)).setCell ⟨g7, 1, none⟩ (.slice Aq mq cq) := ⟨_, rfl⟩
  have HT : Aside0 (Below w.heap.size w v7_ ∧ v7_.heap[g3]? = some (.cells #[.bool false, .slice A m c] 117 (0, 0)) ∧ v7_.heap[g4]? = some (.cells #[.bool false, .slice A2 m2 c2] 117 (0, 0)) ∧ v7_.heap[g6]? = some (.cells #[.bool false, .slice none 0 0] 117 (0, 0)) ∧ Below v4_.heap.size v4_ v7_ ∧ v7_.heap[g7]? = some (.cells #[.bool false, .slice Aq mq cq] 117 (0, 0)) ∧ v7_.heap[g8]? = some (.cells #[.bool false, .slice none 0 0] 117 (0, 0))) := ⟨hw_v7_ ▸ ⟨below_set (below_set (HS.out.1) (ge_g7.out)) (ge_g7.out), blk_far (blk_far (HS.out.2.1) ne_g3_g7 (.bool false)) ne_g3_g7 (.slice Aq mq cq), blk_far (blk_far (HS.out.2.2.1) ne_g4_g7 (.bool false)) ne_g4_g7 (.slice Aq mq cq), blk_far (blk_far (HS.out.2.2.2.1) ne_g6_g7 (.bool false)) ne_g6_g7 (.slice Aq mq cq), below_set (below_set (HS.out.2.2.2.2.1) (gx_v4__g7.out)) (gx_v4__g7.out), blk_put (blk_put (HS.out.2.2.2.2.2.1) 0 (.bool false) (cs' := #[.bool false, .slice none 0 0]) rfl) 1 (.slice Aq mq cq) (cs' := #[.bool false, .slice Aq mq cq]) rfl, blk_far (blk_far (HS.out.2.2.2.2.2.2) ne_g8_g7 (.bool false)) ne_g8_g7 (.slice Aq mq cq)⟩⟩
  clear HS
  have HS := HT
  clear HT
  obtain ⟨v8_, hw_v8_⟩ : ∃ z_, z_ = ((v7_).setCell ⟨g8, 0, none⟩ (.bool false)).setCell ⟨g8, 1, none⟩ (.slice Ar mr cr) := ⟨_, rfl⟩
  have HT : Aside0 (Below w.heap.size w v8_ ∧ v8_.heap[g3]? = some (.cells #[.bool false, .slice A m c] 117 (0, 0)) ∧ v8_.heap[g4]? = some (.cells #[.bool false, .slice A2 m2 c2] 117 (0, 0)) ∧ v8_.heap[g6]? = some (.cells #[.bool false, .slice none 0 0] 117 (0, 0)) ∧ Below v4_.heap.size v4_ v8_ ∧ v8_.heap[g7]? = some (.cells #[.bool false, .slice Aq mq cq] 117 (0, 0)) ∧ v8_.heap[g8]? = some (.cells #[.bool false, .slice Ar mr cr] 117 (0, 0))) := ⟨hw_v8_ ▸ ⟨below_set (below_set (HS.out.1) (ge_g8.out)) (ge_g8.out), blk_far (blk_far (HS.out.2.1) ne_g3_g8 (.bool false)) ne_g3_g8 (.slice Ar mr cr), blk_far (blk_far (HS.out.2.2.1) ne_g4_g8 (.bool false)) ne_g4_g8 (.slice Ar mr cr), blk_far (blk_far (HS.out.2.2.2.1) ne_g6_g8 (.bool false)) ne_g6_g8 (.slice Ar mr cr), below_set (below_set (HS.out.2.2.2.2.1) (gx_v4__g8.out)) (gx_v4__g8.out), blk_far (blk_far (HS.out.2.2.2.2.2.1) ne_g7_g8 (.bool false)) ne_g7_g8 (.slice Ar mr cr), blk_put (blk_put (HS.out.2.2.2.2.2.2) 0 (.bool false) (cs' := #[.bool false, .slice none 0 0]) rfl) 1 (.slice Ar mr cr) (cs' := #[.bool false, .slice Ar mr cr]) rfl⟩⟩
  clear HS
  have HS := HT
  clear HT
  rw [← hw_v7_, ← hw_v8_]
  clear hw_v7_ hw_v8_
  have cv8__g4_0 : v8_.cell? ⟨g4, 0, none⟩ = some (.bool false) := (blk_cell (HS.out.2.2.1) 0).trans rfl
  have cv8__g4_1 : v8_.cell? ⟨g4, 1, none⟩ = some (.slice A2 m2 c2) := (blk_cell (HS.out.2.2.1) 1).trans rfl
  have cv8__g6_0 : v8_.cell? ⟨g6, 0, none⟩ = some (.bool false) := (blk_cell (HS.out.2.2.2.1) 0).trans rfl
  have zv8__g6_0 : v8_.frozen? ⟨g6, 0, none⟩ = false := blk_frozen (HS.out.2.2.2.1) 0
  have cv8__g6_1 : v8_.cell? ⟨g6, 1, none⟩ = some (.slice none 0 0) := (blk_cell (HS.out.2.2.2.1) 1).trans rfl
  have zv8__g6_1 : v8_.frozen? ⟨g6, 1, none⟩ = false := blk_frozen (HS.out.2.2.2.1) 1
  have cv8__g7_0 : v8_.cell? ⟨g7, 0, none⟩ = some (.bool false) := (blk_cell (HS.out.2.2.2.2.2.1) 0).trans rfl
  have zv8__g7_0 : v8_.frozen? ⟨g7, 0, none⟩ = false := blk_frozen (HS.out.2.2.2.2.2.1) 0
  have cv8__g7_1 : v8_.cell? ⟨g7, 1, none⟩ = some (.slice Aq mq cq) := (blk_cell (HS.out.2.2.2.2.2.1) 1).trans rfl
  have zv8__g7_1 : v8_.frozen? ⟨g7, 1, none⟩ = false := blk_frozen (HS.out.2.2.2.2.2.1) 1
  have cv8__g8_0 : v8_.cell? ⟨g8, 0, none⟩ = some (.bool false) := (blk_cell (HS.out.2.2.2.2.2.2) 0).trans rfl
  have zv8__g8_0 : v8_.frozen? ⟨g8, 0, none⟩ = false := blk_frozen (HS.out.2.2.2.2.2.2) 0
  have cv8__g8_1 : v8_.cell? ⟨g8, 1, none⟩ = some (.slice Ar mr cr) := (blk_cell (HS.out.2.2.2.2.2.2) 1).trans rfl
  have zv8__g8_1 : v8_.frozen? ⟨g8, 1, none⟩ = false := blk_frozen (HS.out.2.2.2.2.2.2) 1
  cases z with
  | true =>
    have hr0 : a % b = 0 := of_decide_eq_true HZ.out
    have HE : Aside0 (evenN a b = a / b) := ⟨if_pos hr0⟩
    clear hr0
    go_wp2_with (first
      | ((with_reducible refine gate_callee (f := 116) rfl ?_); (try (refine gate_guard (by rfl) ?_; dsimp only)); refine goesL_ (some 24) rfl rfl Try.func116 (by kernel_rfl) rfl #[.agg #[.bool false, .slice Ar mr cr]] rfl (by (try simp only [List.map_toArray, List.map_cons, List.map_nil]); first | done | rfl) ?_; (with_reducible refine (big_zero0 HZ.out (BD.below HR.out (HS.out.2.2.2.2.1))).mono ?_); rintro e v9_ ⟨rfl, hb⟩; refine ⟨_, rfl, ?_⟩; have HT : Aside0 (Below w.heap.size w v9_ ∧ v9_.heap[g3]? = some (.cells #[.bool false, .slice A m c] 117 (0, 0)) ∧ v9_.heap[g4]? = some (.cells #[.bool false, .slice A2 m2 c2] 117 (0, 0)) ∧ v9_.heap[g6]? = some (.cells #[.bool false, .slice none 0 0] 117 (0, 0)) ∧ Below v4_.heap.size v4_ v9_ ∧ v9_.heap[g7]? = some (.cells #[.bool false, .slice Aq mq cq] 117 (0, 0)) ∧ v9_.heap[g8]? = some (.cells #[.bool false, .slice Ar mr cr] 117 (0, 0))) := ⟨⟨below_step HS.out.1 hb, blk_below HS.out.2.1 hb, blk_below HS.out.2.2.1 hb, blk_below HS.out.2.2.2.1 hb, below_step HS.out.2.2.2.2.1 hb, blk_below HS.out.2.2.2.2.2.1 hb, blk_below HS.out.2.2.2.2.2.2 hb⟩⟩; clear HS; have HS := HT; clear HT; have cv9__g4_0 : v9_.cell? ⟨g4, 0, none⟩ = some (.bool false) := (blk_cell (HS.out.2.2.1) 0).trans rfl; have cv9__g4_1 : v9_.cell? ⟨g4, 1, none⟩ = some (.slice A2 m2 c2) := (blk_cell (HS.out.2.2.1) 1).trans rfl; have cv9__g6_0 : v9_.cell? ⟨g6, 0, none⟩ = some (.bool false) := (blk_cell (HS.out.2.2.2.1) 0).trans rfl; have zv9__g6_0 : v9_.frozen? ⟨g6, 0, none⟩ = false := blk_frozen (HS.out.2.2.2.1) 0; have cv9__g6_1 : v9_.cell? ⟨g6, 1, none⟩ = some (.slice none 0 0) := (blk_cell (HS.out.2.2.2.1) 1).trans rfl; have zv9__g6_1 : v9_.frozen? ⟨g6, 1, none⟩ = false := blk_frozen (HS.out.2.2.2.1) 1; have cv9__g7_0 : v9_.cell? ⟨g7, 0, none⟩ = some (.bool false) := (blk_cell (HS.out.2.2.2.2.2.1) 0).trans rfl; have zv9__g7_0 : v9_.frozen? ⟨g7, 0, none⟩ = false := blk_frozen (HS.out.2.2.2.2.2.1) 0; have cv9__g7_1 : v9_.cell? ⟨g7, 1, none⟩ = some (.slice Aq mq cq) := (blk_cell (HS.out.2.2.2.2.2.1) 1).trans rfl; have zv9__g7_1 : v9_.frozen? ⟨g7, 1, none⟩ = false := blk_frozen (HS.out.2.2.2.2.2.1) 1; have cv9__g8_0 : v9_.cell? ⟨g8, 0, none⟩ = some (.bool false) := (blk_cell (HS.out.2.2.2.2.2.2) 0).trans rfl; have zv9__g8_0 : v9_.frozen? ⟨g8, 0, none⟩ = false := blk_frozen (HS.out.2.2.2.2.2.2) 0; have cv9__g8_1 : v9_.cell? ⟨g8, 1, none⟩ = some (.slice Ar mr cr) := (blk_cell (HS.out.2.2.2.2.2.2) 1).trans rfl; have zv9__g8_1 : v9_.frozen? ⟨g8, 1, none⟩ = false := blk_frozen (HS.out.2.2.2.2.2.2) 1))
    refine bodyPost_ret (results_cell_row rfl _ _ g6 117 #[.bool false, .slice Aq mq cq] (0, 0) _ rfl (by refine blk_put (cs := #[.bool false, .slice none 0 0]) ?_ 1 _ rfl; refine blk_put (cs := #[.bool false, .slice none 0 0]) ?_ 0 _ rfl; exact HS.out.2.2.2.1) Try.underlying117 rfl (by kernel_rfl)) rfl ?_
    refine ⟨_, _, _, rfl, ?_, below_set (below_set (HS.out.1) ge_g6.out) ge_g6.out⟩
    rw [HE.out]
    exact BD.set (b := false) (BD.set (BD.below HQ.out (HS.out.2.2.2.2.1)) (HS.out.2.2.2.1) 0 _) (blk_put (HS.out.2.2.2.1) 0 _ rfl) 1 _
  | false =>
    have hr1 : ¬ a % b = 0 := of_decide_eq_false HZ.out
    have HR1 : Aside0 (0 < a % b) := ⟨by omega⟩
    clear hr1
    go_upto_region 6 with (first
      | ((with_reducible refine gate_callee (f := 116) rfl ?_); (try (refine gate_guard (by rfl) ?_; dsimp only)); refine goesL_ (some 24) rfl rfl Try.func116 (by kernel_rfl) rfl #[.agg #[.bool false, .slice Ar mr cr]] rfl (by (try simp only [List.map_toArray, List.map_cons, List.map_nil]); first | done | rfl) ?_; (with_reducible refine (big_zero0 HZ.out (BD.below HR.out (HS.out.2.2.2.2.1))).mono ?_); rintro e v9_ ⟨rfl, hb⟩; refine ⟨_, rfl, ?_⟩; have HT : Aside0 (Below w.heap.size w v9_ ∧ v9_.heap[g3]? = some (.cells #[.bool false, .slice A m c] 117 (0, 0)) ∧ v9_.heap[g4]? = some (.cells #[.bool false, .slice A2 m2 c2] 117 (0, 0)) ∧ v9_.heap[g6]? = some (.cells #[.bool false, .slice none 0 0] 117 (0, 0)) ∧ Below v4_.heap.size v4_ v9_ ∧ v9_.heap[g7]? = some (.cells #[.bool false, .slice Aq mq cq] 117 (0, 0)) ∧ v9_.heap[g8]? = some (.cells #[.bool false, .slice Ar mr cr] 117 (0, 0))) := ⟨⟨below_step HS.out.1 hb, blk_below HS.out.2.1 hb, blk_below HS.out.2.2.1 hb, blk_below HS.out.2.2.2.1 hb, below_step HS.out.2.2.2.2.1 hb, blk_below HS.out.2.2.2.2.2.1 hb, blk_below HS.out.2.2.2.2.2.2 hb⟩⟩; clear HS; have HS := HT; clear HT; have cv9__g4_0 : v9_.cell? ⟨g4, 0, none⟩ = some (.bool false) := (blk_cell (HS.out.2.2.1) 0).trans rfl; have cv9__g4_1 : v9_.cell? ⟨g4, 1, none⟩ = some (.slice A2 m2 c2) := (blk_cell (HS.out.2.2.1) 1).trans rfl; have cv9__g6_0 : v9_.cell? ⟨g6, 0, none⟩ = some (.bool false) := (blk_cell (HS.out.2.2.2.1) 0).trans rfl; have zv9__g6_0 : v9_.frozen? ⟨g6, 0, none⟩ = false := blk_frozen (HS.out.2.2.2.1) 0; have cv9__g6_1 : v9_.cell? ⟨g6, 1, none⟩ = some (.slice none 0 0) := (blk_cell (HS.out.2.2.2.1) 1).trans rfl; have zv9__g6_1 : v9_.frozen? ⟨g6, 1, none⟩ = false := blk_frozen (HS.out.2.2.2.1) 1; have cv9__g7_0 : v9_.cell? ⟨g7, 0, none⟩ = some (.bool false) := (blk_cell (HS.out.2.2.2.2.2.1) 0).trans rfl; have zv9__g7_0 : v9_.frozen? ⟨g7, 0, none⟩ = false := blk_frozen (HS.out.2.2.2.2.2.1) 0; have cv9__g7_1 : v9_.cell? ⟨g7, 1, none⟩ = some (.slice Aq mq cq) := (blk_cell (HS.out.2.2.2.2.2.1) 1).trans rfl; have zv9__g7_1 : v9_.frozen? ⟨g7, 1, none⟩ = false := blk_frozen (HS.out.2.2.2.2.2.1) 1; have cv9__g8_0 : v9_.cell? ⟨g8, 0, none⟩ = some (.bool false) := (blk_cell (HS.out.2.2.2.2.2.2) 0).trans rfl; have zv9__g8_0 : v9_.frozen? ⟨g8, 0, none⟩ = false := blk_frozen (HS.out.2.2.2.2.2.2) 0; have cv9__g8_1 : v9_.cell? ⟨g8, 1, none⟩ = some (.slice Ar mr cr) := (blk_cell (HS.out.2.2.2.2.2.2) 1).trans rfl; have zv9__g8_1 : v9_.frozen? ⟨g8, 1, none⟩ = false := blk_frozen (HS.out.2.2.2.2.2.2) 1))
    have HT : Aside0 (Below w.heap.size w v9_.drew ∧ v9_.drew.heap[g3]? = some (.cells #[.bool false, .slice A m c] 117 (0, 0)) ∧ v9_.drew.heap[g4]? = some (.cells #[.bool false, .slice A2 m2 c2] 117 (0, 0)) ∧ v9_.drew.heap[g6]? = some (.cells #[.bool false, .slice none 0 0] 117 (0, 0)) ∧ Below v4_.heap.size v4_ v9_.drew ∧ v9_.drew.heap[g7]? = some (.cells #[.bool false, .slice Aq mq cq] 117 (0, 0)) ∧ v9_.drew.heap[g8]? = some (.cells #[.bool false, .slice Ar mr cr] 117 (0, 0))) := ⟨⟨below_drew1 (HS.out.1), blk_drew (HS.out.2.1), blk_drew (HS.out.2.2.1), blk_drew (HS.out.2.2.2.1), below_drew1 (HS.out.2.2.2.2.1), blk_drew (HS.out.2.2.2.2.2.1), blk_drew (HS.out.2.2.2.2.2.2)⟩⟩
    clear HS
    have HS := HT
    clear HT
    refine start_ (n := 6) (S := (fun W_ => W_.cell? ⟨g8, 0, none⟩ = some (.bool false) ∧ W_.cell? ⟨g8, 1, none⟩ = some (.slice Ar mr cr) ∧ W_.cell? ⟨g4, 0, none⟩ = some (.bool false) ∧ W_.cell? ⟨g4, 1, none⟩ = some (.slice A2 m2 c2))) (ds := []) #[false, false, false, false, false, false] (by kernel_rfl) rfl rfl (⟨(blk_cell (HS.out.2.2.2.2.2.2) 0).trans rfl, (blk_cell (HS.out.2.2.2.2.2.2) 1).trans rfl, (blk_cell (HS.out.2.2.1) 0).trans rfl, (blk_cell (HS.out.2.2.1) 1).trans rfl⟩) (fun hHeld => ?_)
    generalize v9_.drew = v10_ at HS hHeld ⊢
    refine take_ (i := 0) (N := some 26) (v := ?_) (a' := ?_) #[true, false, false, false, false, false] rfl rfl (by kernel_rfl) (fun _ _ _ h => h) (Or.inl ⟨by rfl, ?_⟩) hHeld ?_ ?_
    rotate_left
    · rintro w' ⟨s0, s1, s2, s3⟩
      go_simp
      with_reducible rfl
    rotate_left
    · simp only [Act.put, List.setIfInBounds_toArray, List.set_cons_zero, List.set_cons_succ, i64_w, i32_w]
      rfl
    refine take_ (i := 1) (N := some 27) (v := ?_) (a' := ?_) #[true, true, false, false, false, false] rfl rfl (by kernel_rfl) (fun _ _ _ h => h) (Or.inl ⟨by rfl, ?_⟩) hHeld ?_ ?_
    rotate_left
    · rintro w' ⟨s0, s1, s2, s3⟩
      go_simp
      with_reducible rfl
    rotate_left
    · simp only [Act.put, List.setIfInBounds_toArray, List.set_cons_zero, List.set_cons_succ, i64_w, i32_w]
      rfl
    refine take_ (i := 3) (N := some 29) (v := ?_) (a' := ?_) #[true, true, false, true, false, false] rfl rfl (by kernel_rfl) (fun _ _ _ h => h) (Or.inl ⟨by rfl, ?_⟩) hHeld ?_ ?_
    rotate_left
    · rintro w' ⟨s0, s1, s2, s3⟩
      go_simp
      with_reducible rfl
    rotate_left
    · simp only [Act.put, List.setIfInBounds_toArray, List.set_cons_zero, List.set_cons_succ, i64_w, i32_w]
      rfl
    refine one_ (i := 2) (N := some 28) #[true, true, true, true, false, false] rfl rfl (by kernel_rfl) (by decide) (fun K hK => ?_)
    refine goes_ Try.func118 (by kernel_rfl) rfl #[.agg #[.bool false, .slice Ar mr cr], .agg #[.bool false, .slice Ar mr cr]] (by rfl) rfl rfl (by (try simp only [List.map_toArray, List.map_cons, List.map_nil]); first | done | rfl) ?_
    with_reducible refine (big_plus0 (BD.below HR.out (HS.out.2.2.2.2.1)) (BD.below HR.out (HS.out.2.2.2.2.1)) HSR.out HSR.out).mono ?_
    rintro e v11_ ⟨Ah, mh, ch, rfl, hh_, hb⟩
    refine ⟨_, rfl, ?_⟩
    have HH := Aside0.mk hh_
    clear hh_
    have HT : Aside0 (Below w.heap.size w v11_ ∧ v11_.heap[g3]? = some (.cells #[.bool false, .slice A m c] 117 (0, 0)) ∧ v11_.heap[g4]? = some (.cells #[.bool false, .slice A2 m2 c2] 117 (0, 0)) ∧ v11_.heap[g6]? = some (.cells #[.bool false, .slice none 0 0] 117 (0, 0)) ∧ Below v4_.heap.size v4_ v11_ ∧ v11_.heap[g7]? = some (.cells #[.bool false, .slice Aq mq cq] 117 (0, 0)) ∧ v11_.heap[g8]? = some (.cells #[.bool false, .slice Ar mr cr] 117 (0, 0))) := ⟨⟨below_step HS.out.1 hb, blk_below HS.out.2.1 hb, blk_below HS.out.2.2.1 hb, blk_below HS.out.2.2.2.1 hb, below_step HS.out.2.2.2.2.1 hb, blk_below HS.out.2.2.2.2.2.1 hb, blk_below HS.out.2.2.2.2.2.2 hb⟩⟩
    clear HS
    have HS := HT
    clear HT
    refine hK.out _ _ (⟨(blk_cell (HS.out.2.2.2.2.2.2) 0).trans rfl, (blk_cell (HS.out.2.2.2.2.2.2) 1).trans rfl, (blk_cell (HS.out.2.2.1) 0).trans rfl, (blk_cell (HS.out.2.2.1) 1).trans rfl⟩) (fun hHeld => ?_)
    clear hK K
    refine norm_ (a' := ?_) ?_ ?_
    rotate_left
    · show Act.put _ (some 28) _ = _
      simp only [Act.put, List.setIfInBounds_toArray, List.set_cons_zero, List.set_cons_succ, i64_w, i32_w]
      rfl
    refine one_ (i := 4) (N := some 30) #[true, true, true, true, true, false] rfl rfl (by kernel_rfl) (by decide) (fun K hK => ?_)
    refine goes_ Try.func117 (by kernel_rfl) rfl #[.agg #[.bool false, .slice Ah mh ch], .agg #[.bool false, .slice A2 m2 c2]] (by rfl) rfl rfl (by (try simp only [List.map_toArray, List.map_cons, List.map_nil]); first | done | rfl) ?_
    with_reducible refine (big_compare0 HC.out HH.out (BD.below HV.out (HS.out.1)) HSS.out HBB.out).mono ?_
    rintro e v12_ ⟨rfl, hb⟩
    refine ⟨_, rfl, ?_⟩
    have HT : Aside0 (Below w.heap.size w v12_ ∧ v12_.heap[g3]? = some (.cells #[.bool false, .slice A m c] 117 (0, 0)) ∧ v12_.heap[g4]? = some (.cells #[.bool false, .slice A2 m2 c2] 117 (0, 0)) ∧ v12_.heap[g6]? = some (.cells #[.bool false, .slice none 0 0] 117 (0, 0)) ∧ Below v4_.heap.size v4_ v12_ ∧ v12_.heap[g7]? = some (.cells #[.bool false, .slice Aq mq cq] 117 (0, 0)) ∧ v12_.heap[g8]? = some (.cells #[.bool false, .slice Ar mr cr] 117 (0, 0))) := ⟨⟨below_step HS.out.1 hb, blk_below HS.out.2.1 hb, blk_below HS.out.2.2.1 hb, blk_below HS.out.2.2.2.1 hb, below_step HS.out.2.2.2.2.1 hb, blk_below HS.out.2.2.2.2.2.1 hb, blk_below HS.out.2.2.2.2.2.2 hb⟩⟩
    clear HS
    have HS := HT
    clear HT
    refine hK.out _ _ (⟨(blk_cell (HS.out.2.2.2.2.2.2) 0).trans rfl, (blk_cell (HS.out.2.2.2.2.2.2) 1).trans rfl, (blk_cell (HS.out.2.2.1) 0).trans rfl, (blk_cell (HS.out.2.2.1) 1).trans rfl⟩) (fun hHeld => ?_)
    clear hK K
    refine norm_ (a' := ?_) ?_ ?_
    rotate_left
    · show Act.put _ (some 30) _ = _
      simp only [Act.put, List.setIfInBounds_toArray, List.set_cons_zero, List.set_cons_succ, i64_w, i32_w]
      rfl
    refine pure_ (i := 5) (N := some 9) (v := ?_) (a' := ?_) #[true, true, true, true, true, true] rfl rfl (by kernel_rfl) (fun _ _ _ h => h) (Or.inl ⟨by rfl, ?_⟩) ?_ ?_
    rotate_left
    · intro w'
      go_simp
      with_reducible rfl
    rotate_left
    · simp only [Act.put, List.setIfInBounds_toArray, List.set_cons_zero, List.set_cons_succ, i64_w, i32_w]
      rfl
    refine done_ (by kernel_rfl) ?_
    have cv12__g4_0 : v12_.cell? ⟨g4, 0, none⟩ = some (.bool false) := (blk_cell (HS.out.2.2.1) 0).trans rfl
    have cv12__g4_1 : v12_.cell? ⟨g4, 1, none⟩ = some (.slice A2 m2 c2) := (blk_cell (HS.out.2.2.1) 1).trans rfl
    have cv12__g6_0 : v12_.cell? ⟨g6, 0, none⟩ = some (.bool false) := (blk_cell (HS.out.2.2.2.1) 0).trans rfl
    have zv12__g6_0 : v12_.frozen? ⟨g6, 0, none⟩ = false := blk_frozen (HS.out.2.2.2.1) 0
    have cv12__g6_1 : v12_.cell? ⟨g6, 1, none⟩ = some (.slice none 0 0) := (blk_cell (HS.out.2.2.2.1) 1).trans rfl
    have zv12__g6_1 : v12_.frozen? ⟨g6, 1, none⟩ = false := blk_frozen (HS.out.2.2.2.1) 1
    have cv12__g7_0 : v12_.cell? ⟨g7, 0, none⟩ = some (.bool false) := (blk_cell (HS.out.2.2.2.2.2.1) 0).trans rfl
    have zv12__g7_0 : v12_.frozen? ⟨g7, 0, none⟩ = false := blk_frozen (HS.out.2.2.2.2.2.1) 0
    have cv12__g7_1 : v12_.cell? ⟨g7, 1, none⟩ = some (.slice Aq mq cq) := (blk_cell (HS.out.2.2.2.2.2.1) 1).trans rfl
    have zv12__g7_1 : v12_.frozen? ⟨g7, 1, none⟩ = false := blk_frozen (HS.out.2.2.2.2.2.1) 1
    have cv12__g8_0 : v12_.cell? ⟨g8, 0, none⟩ = some (.bool false) := (blk_cell (HS.out.2.2.2.2.2.2) 0).trans rfl
    have zv12__g8_0 : v12_.frozen? ⟨g8, 0, none⟩ = false := blk_frozen (HS.out.2.2.2.2.2.2) 0
    have cv12__g8_1 : v12_.cell? ⟨g8, 1, none⟩ = some (.slice Ar mr cr) := (blk_cell (HS.out.2.2.2.2.2.2) 1).trans rfl
    have zv12__g8_1 : v12_.frozen? ⟨g8, 1, none⟩ = false := blk_frozen (HS.out.2.2.2.2.2.2) 1
    have hC := HC.out
    have hr1 := HR1.out
    clear HC HR1
    unfold sg at hC
    by_cases h2 : b < a % b + a % b
    · obtain rfl : s = 1 := by rw [← hC, if_neg (by omega), if_pos h2]
      have HE : Aside0 (evenN a b = a / b + Int.toNat 1) := ⟨by unfold evenN; rw [if_neg (by omega), if_pos (.inl h2)]; rfl⟩
      clear h2 hr1 hC
      go_upto_region 18 with fail
      have HT : Aside0 (Below w.heap.size w v12_.drew ∧ v12_.drew.heap[g3]? = some (.cells #[.bool false, .slice A m c] 117 (0, 0)) ∧ v12_.drew.heap[g4]? = some (.cells #[.bool false, .slice A2 m2 c2] 117 (0, 0)) ∧ v12_.drew.heap[g6]? = some (.cells #[.bool false, .slice none 0 0] 117 (0, 0)) ∧ Below v4_.heap.size v4_ v12_.drew ∧ v12_.drew.heap[g7]? = some (.cells #[.bool false, .slice Aq mq cq] 117 (0, 0)) ∧ v12_.drew.heap[g8]? = some (.cells #[.bool false, .slice Ar mr cr] 117 (0, 0))) := ⟨⟨below_drew1 (HS.out.1), blk_drew (HS.out.2.1), blk_drew (HS.out.2.2.1), blk_drew (HS.out.2.2.2.1), below_drew1 (HS.out.2.2.2.2.1), blk_drew (HS.out.2.2.2.2.2.1), blk_drew (HS.out.2.2.2.2.2.2)⟩⟩
      clear HS
      have HS := HT
      clear HT
      refine start_ (n := 4) (S := (fun W_ => W_.cell? ⟨g7, 0, none⟩ = some (.bool false) ∧ W_.cell? ⟨g7, 1, none⟩ = some (.slice Aq mq cq))) (ds := [3]) #[false, false, false, false] (by kernel_rfl) rfl rfl (⟨(blk_cell (HS.out.2.2.2.2.2.1) 0).trans rfl, (blk_cell (HS.out.2.2.2.2.2.1) 1).trans rfl⟩) (fun hHeld => ?_)
      generalize v12_.drew = v13_ at HS hHeld ⊢
      refine take_ (i := 0) (N := some 65) (v := ?_) (a' := ?_) #[true, false, false, false] rfl rfl (by kernel_rfl) (fun _ _ _ h => h) (Or.inl ⟨by rfl, ?_⟩) hHeld ?_ ?_
      rotate_left
      · rintro w' ⟨s0, s1⟩
        go_simp
        with_reducible rfl
      rotate_left
      · simp only [Act.put, List.setIfInBounds_toArray, List.set_cons_zero, List.set_cons_succ, i64_w, i32_w]
        rfl
      refine one_ (i := 1) (N := some 66) #[true, true, false, false] rfl rfl (by kernel_rfl) (by decide) (fun K hK => ?_)
      refine goes_ Try.func74 (by kernel_rfl) rfl #[.int .i64 1] (by rfl) rfl rfl (by (try simp only [List.map_toArray, List.map_cons, List.map_nil]); first | done | rfl) ?_
      with_reducible refine (big_of0 (x := 1) (by decide) (by decide) _).mono ?_
      rintro e v14_ ⟨Ao, mo, co, rfl, ho_, hb⟩
      refine ⟨_, rfl, ?_⟩
      have HO := Aside0.mk ho_
      clear ho_
      have HT : Aside0 (Below w.heap.size w v14_ ∧ v14_.heap[g3]? = some (.cells #[.bool false, .slice A m c] 117 (0, 0)) ∧ v14_.heap[g4]? = some (.cells #[.bool false, .slice A2 m2 c2] 117 (0, 0)) ∧ v14_.heap[g6]? = some (.cells #[.bool false, .slice none 0 0] 117 (0, 0)) ∧ Below v4_.heap.size v4_ v14_ ∧ v14_.heap[g7]? = some (.cells #[.bool false, .slice Aq mq cq] 117 (0, 0)) ∧ v14_.heap[g8]? = some (.cells #[.bool false, .slice Ar mr cr] 117 (0, 0))) := ⟨⟨below_step HS.out.1 hb, blk_below HS.out.2.1 hb, blk_below HS.out.2.2.1 hb, blk_below HS.out.2.2.2.1 hb, below_step HS.out.2.2.2.2.1 hb, blk_below HS.out.2.2.2.2.2.1 hb, blk_below HS.out.2.2.2.2.2.2 hb⟩⟩
      clear HS
      have HS := HT
      clear HT
      refine hK.out _ _ (⟨(blk_cell (HS.out.2.2.2.2.2.1) 0).trans rfl, (blk_cell (HS.out.2.2.2.2.2.1) 1).trans rfl⟩) (fun hHeld => ?_)
      clear hK K
      refine norm_ (a' := ?_) ?_ ?_
      rotate_left
      · show Act.put _ (some 66) _ = _
        simp only [Act.put, List.setIfInBounds_toArray, List.set_cons_zero, List.set_cons_succ, i64_w, i32_w]
        rfl
      refine one_ (i := 2) (N := some 67) #[true, true, true, false] rfl rfl (by kernel_rfl) (by decide) (fun K hK => ?_)
      refine goes_ Try.func118 (by kernel_rfl) rfl #[.agg #[.bool false, .slice Aq mq cq], .agg #[.bool false, .slice Ao mo co]] (by rfl) rfl rfl (by (try simp only [List.map_toArray, List.map_cons, List.map_nil]); first | done | rfl) ?_
      with_reducible refine (big_plus0 (BD.below HQ.out (HS.out.2.2.2.2.1)) HO.out HSQ.out HS1.out).mono ?_
      rintro e v15_ ⟨Ap, mp, cp, rfl, hp_, hb⟩
      refine ⟨_, rfl, ?_⟩
      have HP := Aside0.mk hp_
      clear hp_
      have HT : Aside0 (Below w.heap.size w v15_ ∧ v15_.heap[g3]? = some (.cells #[.bool false, .slice A m c] 117 (0, 0)) ∧ v15_.heap[g4]? = some (.cells #[.bool false, .slice A2 m2 c2] 117 (0, 0)) ∧ v15_.heap[g6]? = some (.cells #[.bool false, .slice none 0 0] 117 (0, 0)) ∧ Below v4_.heap.size v4_ v15_ ∧ v15_.heap[g7]? = some (.cells #[.bool false, .slice Aq mq cq] 117 (0, 0)) ∧ v15_.heap[g8]? = some (.cells #[.bool false, .slice Ar mr cr] 117 (0, 0))) := ⟨⟨below_step HS.out.1 hb, blk_below HS.out.2.1 hb, blk_below HS.out.2.2.1 hb, blk_below HS.out.2.2.2.1 hb, below_step HS.out.2.2.2.2.1 hb, blk_below HS.out.2.2.2.2.2.1 hb, blk_below HS.out.2.2.2.2.2.2 hb⟩⟩
      clear HS
      have HS := HT
      clear HT
      refine hK.out _ _ (⟨(blk_cell (HS.out.2.2.2.2.2.1) 0).trans rfl, (blk_cell (HS.out.2.2.2.2.2.1) 1).trans rfl⟩) (fun hHeld => ?_)
      clear hK K
      refine norm_ (a' := ?_) ?_ ?_
      rotate_left
      · show Act.put _ (some 67) _ = _
        simp only [Act.put, List.setIfInBounds_toArray, List.set_cons_zero, List.set_cons_succ, i64_w, i32_w]
        rfl
      refine last_ (i := 3) (N := none) #[true, true, true, true] rfl rfl (by kernel_rfl) (by decide) (fun K hK => ?_)
      have cv15__g4_0 : v15_.cell? ⟨g4, 0, none⟩ = some (.bool false) := (blk_cell (HS.out.2.2.1) 0).trans rfl
      have cv15__g4_1 : v15_.cell? ⟨g4, 1, none⟩ = some (.slice A2 m2 c2) := (blk_cell (HS.out.2.2.1) 1).trans rfl
      have cv15__g6_0 : v15_.cell? ⟨g6, 0, none⟩ = some (.bool false) := (blk_cell (HS.out.2.2.2.1) 0).trans rfl
      have zv15__g6_0 : v15_.frozen? ⟨g6, 0, none⟩ = false := blk_frozen (HS.out.2.2.2.1) 0
      have cv15__g6_1 : v15_.cell? ⟨g6, 1, none⟩ = some (.slice none 0 0) := (blk_cell (HS.out.2.2.2.1) 1).trans rfl
      have zv15__g6_1 : v15_.frozen? ⟨g6, 1, none⟩ = false := blk_frozen (HS.out.2.2.2.1) 1
      have cv15__g7_0 : v15_.cell? ⟨g7, 0, none⟩ = some (.bool false) := (blk_cell (HS.out.2.2.2.2.2.1) 0).trans rfl
      have zv15__g7_0 : v15_.frozen? ⟨g7, 0, none⟩ = false := blk_frozen (HS.out.2.2.2.2.2.1) 0
      have cv15__g7_1 : v15_.cell? ⟨g7, 1, none⟩ = some (.slice Aq mq cq) := (blk_cell (HS.out.2.2.2.2.2.1) 1).trans rfl
      have zv15__g7_1 : v15_.frozen? ⟨g7, 1, none⟩ = false := blk_frozen (HS.out.2.2.2.2.2.1) 1
      have cv15__g8_0 : v15_.cell? ⟨g8, 0, none⟩ = some (.bool false) := (blk_cell (HS.out.2.2.2.2.2.2) 0).trans rfl
      have zv15__g8_0 : v15_.frozen? ⟨g8, 0, none⟩ = false := blk_frozen (HS.out.2.2.2.2.2.2) 0
      have cv15__g8_1 : v15_.cell? ⟨g8, 1, none⟩ = some (.slice Ar mr cr) := (blk_cell (HS.out.2.2.2.2.2.2) 1).trans rfl
      have zv15__g8_1 : v15_.frozen? ⟨g8, 1, none⟩ = false := blk_frozen (HS.out.2.2.2.2.2.2) 1
      refine skip_ (w1 := ?_) (by rfl) rfl ?_ ?_
      rotate_left
      · go_simp
        rfl
      refine hK.out _ _ ?_
      clear hK K
      refine done_ (by kernel_rfl) ?_
      have HP2 := Aside0.mk (BD.set (b := false) (BD.set (b := false) HP.out (HS.out.2.2.2.2.2.1) 0 (.bool false)) (blk_put (HS.out.2.2.2.2.2.1) 0 (.bool false) rfl) 1 (.slice Ap mp cp))
      obtain ⟨v16_, hw_v16_⟩ : ∃ z_, z_ = ((v15_).setCell ⟨g7, 0, none⟩ (.bool false)).setCell ⟨g7, 1, none⟩ (.slice Ap mp cp) := ⟨_, rfl⟩
      have HT : Aside0 (Below w.heap.size w v16_ ∧ v16_.heap[g3]? = some (.cells #[.bool false, .slice A m c] 117 (0, 0)) ∧ v16_.heap[g4]? = some (.cells #[.bool false, .slice A2 m2 c2] 117 (0, 0)) ∧ v16_.heap[g6]? = some (.cells #[.bool false, .slice none 0 0] 117 (0, 0)) ∧ Below v4_.heap.size v4_ v16_ ∧ v16_.heap[g7]? = some (.cells #[.bool false, .slice Ap mp cp] 117 (0, 0)) ∧ v16_.heap[g8]? = some (.cells #[.bool false, .slice Ar mr cr] 117 (0, 0))) := ⟨hw_v16_ ▸ ⟨below_set (below_set (HS.out.1) (ge_g7.out)) (ge_g7.out), blk_far (blk_far (HS.out.2.1) ne_g3_g7 (.bool false)) ne_g3_g7 (.slice Ap mp cp), blk_far (blk_far (HS.out.2.2.1) ne_g4_g7 (.bool false)) ne_g4_g7 (.slice Ap mp cp), blk_far (blk_far (HS.out.2.2.2.1) ne_g6_g7 (.bool false)) ne_g6_g7 (.slice Ap mp cp), below_set (below_set (HS.out.2.2.2.2.1) (gx_v4__g7.out)) (gx_v4__g7.out), blk_put (blk_put (HS.out.2.2.2.2.2.1) 0 (.bool false) (cs' := #[.bool false, .slice Aq mq cq]) rfl) 1 (.slice Ap mp cp) (cs' := #[.bool false, .slice Ap mp cp]) rfl, blk_far (blk_far (HS.out.2.2.2.2.2.2) ne_g8_g7 (.bool false)) ne_g8_g7 (.slice Ap mp cp)⟩⟩
      clear HS
      have HS := HT
      clear HT
      rw [← hw_v16_]
      rw [← hw_v16_] at HP2
      clear hw_v16_
      have cv16__g4_0 : v16_.cell? ⟨g4, 0, none⟩ = some (.bool false) := (blk_cell (HS.out.2.2.1) 0).trans rfl
      have cv16__g4_1 : v16_.cell? ⟨g4, 1, none⟩ = some (.slice A2 m2 c2) := (blk_cell (HS.out.2.2.1) 1).trans rfl
      have cv16__g6_0 : v16_.cell? ⟨g6, 0, none⟩ = some (.bool false) := (blk_cell (HS.out.2.2.2.1) 0).trans rfl
      have zv16__g6_0 : v16_.frozen? ⟨g6, 0, none⟩ = false := blk_frozen (HS.out.2.2.2.1) 0
      have cv16__g6_1 : v16_.cell? ⟨g6, 1, none⟩ = some (.slice none 0 0) := (blk_cell (HS.out.2.2.2.1) 1).trans rfl
      have zv16__g6_1 : v16_.frozen? ⟨g6, 1, none⟩ = false := blk_frozen (HS.out.2.2.2.1) 1
      have cv16__g7_0 : v16_.cell? ⟨g7, 0, none⟩ = some (.bool false) := (blk_cell (HS.out.2.2.2.2.2.1) 0).trans rfl
      have zv16__g7_0 : v16_.frozen? ⟨g7, 0, none⟩ = false := blk_frozen (HS.out.2.2.2.2.2.1) 0
      have cv16__g7_1 : v16_.cell? ⟨g7, 1, none⟩ = some (.slice Ap mp cp) := (blk_cell (HS.out.2.2.2.2.2.1) 1).trans rfl
      have zv16__g7_1 : v16_.frozen? ⟨g7, 1, none⟩ = false := blk_frozen (HS.out.2.2.2.2.2.1) 1
      have cv16__g8_0 : v16_.cell? ⟨g8, 0, none⟩ = some (.bool false) := (blk_cell (HS.out.2.2.2.2.2.2) 0).trans rfl
      have zv16__g8_0 : v16_.frozen? ⟨g8, 0, none⟩ = false := blk_frozen (HS.out.2.2.2.2.2.2) 0
      have cv16__g8_1 : v16_.cell? ⟨g8, 1, none⟩ = some (.slice Ar mr cr) := (blk_cell (HS.out.2.2.2.2.2.2) 1).trans rfl
      have zv16__g8_1 : v16_.frozen? ⟨g8, 1, none⟩ = false := blk_frozen (HS.out.2.2.2.2.2.2) 1
      go_wp2_with fail
      refine bodyPost_ret (results_cell_row rfl _ _ g6 117 #[.bool false, .slice Ap mp cp] (0, 0) _ rfl (by refine blk_put (cs := #[.bool false, .slice none 0 0]) ?_ 1 _ rfl; refine blk_put (cs := #[.bool false, .slice none 0 0]) ?_ 0 _ rfl; exact HS.out.2.2.2.1) Try.underlying117 rfl (by kernel_rfl)) rfl ?_
      refine ⟨_, _, _, rfl, ?_, below_set (below_set (HS.out.1) ge_g6.out) ge_g6.out⟩
      rw [HE.out]
      exact BD.set (b := false) (BD.set HP2.out (HS.out.2.2.2.1) 0 _) (blk_put (HS.out.2.2.2.1) 0 _ rfl) 1 _
    by_cases h3 : a % b + a % b < b
    · obtain rfl : s = -1 := by rw [← hC, if_pos h3]
      have HE : Aside0 (evenN a b = a / b) := ⟨by unfold evenN; rw [if_neg (by omega), if_neg (by omega)]⟩
      clear h2 h3 hr1 hC
      go_wp2_with fail
      refine bodyPost_ret (results_cell_row rfl _ _ g6 117 #[.bool false, .slice Aq mq cq] (0, 0) _ rfl (by refine blk_put (cs := #[.bool false, .slice none 0 0]) ?_ 1 _ rfl; refine blk_put (cs := #[.bool false, .slice none 0 0]) ?_ 0 _ rfl; exact HS.out.2.2.2.1) Try.underlying117 rfl (by kernel_rfl)) rfl ?_
      refine ⟨_, _, _, rfl, ?_, below_set (below_set (HS.out.1) ge_g6.out) ge_g6.out⟩
      rw [HE.out]
      exact BD.set (b := false) (BD.set (BD.below HQ.out (HS.out.2.2.2.2.1)) (HS.out.2.2.2.1) 0 _) (blk_put (HS.out.2.2.2.1) 0 _ rfl) 1 _
    have h4 : a % b + a % b = b := by omega
    obtain rfl : s = 0 := by rw [← hC, if_neg h3, if_neg h2]
    clear hC
    have hq4 := BD.first (BD.below HQ.out (HS.out.2.2.2.2.1))
    by_cases h5 : a / b = 0
    · have hm0 : mq = 0 := hq4.1 h5
      have HE : Aside0 (evenN a b = a / b) := ⟨by unfold evenN; rw [if_neg (by omega), if_neg (by omega)]⟩
      have hm2 : decide ((mq : Int) > 0) = false := decide_eq_false (by omega)
      have hm3 : decide ((0 : Int) < (mq : Int)) = false := decide_eq_false (by omega)
      have hm4 : ¬ (0 : Int) < (mq : Int) := by omega
      clear hm0 h2 h3 h4 hr1 h5 hq4
      go_wp2_with fail
      refine bodyPost_ret (results_cell_row rfl _ _ g6 117 #[.bool false, .slice Aq mq cq] (0, 0) _ rfl (by refine blk_put (cs := #[.bool false, .slice none 0 0]) ?_ 1 _ rfl; refine blk_put (cs := #[.bool false, .slice none 0 0]) ?_ 0 _ rfl; exact HS.out.2.2.2.1) Try.underlying117 rfl (by kernel_rfl)) rfl ?_
      refine ⟨_, _, _, rfl, ?_, below_set (below_set (HS.out.1) ge_g6.out) ge_g6.out⟩
      rw [HE.out]
      exact BD.set (b := false) (BD.set (BD.below HQ.out (HS.out.2.2.2.2.1)) (HS.out.2.2.2.1) 0 _) (blk_put (HS.out.2.2.2.1) 0 _ rfl) 1 _
    obtain ⟨hm, adq, rfl, hx⟩ := hq4.2 (Nat.pos_of_ne_zero h5)
    clear hq4
    obtain ⟨x, ex⟩ : ∃ z, z = ((a / b % 10000 : Nat) : Int) := ⟨_, rfl⟩
    rw [← ex] at hx
    have hm2 : decide ((mq : Int) > 0) = true := decide_eq_true (by omega)
    have hm3 : decide ((0 : Int) < (mq : Int)) = true := decide_eq_true (by omega)
    have hm4 : (0 : Int) < (mq : Int) := by omega
    by_cases h6 : a / b % 2 = 0
    · have HE : Aside0 (evenN a b = a / b) := ⟨by unfold evenN; rw [if_neg (by omega), if_neg (by omega)]⟩
      have hT : Int.tmod x 2 = 0 := by
        rw [ex, Int.tmod_eq_emod_of_nonneg (by omega)]
        omega
      clear ex h2 h3 h4 hr1 h5 h6
      go_wp2_with fail
      refine bodyPost_ret (results_cell_row rfl _ _ g6 117 #[.bool false, .slice (some adq) mq cq] (0, 0) _ rfl (by refine blk_put (cs := #[.bool false, .slice none 0 0]) ?_ 1 _ rfl; refine blk_put (cs := #[.bool false, .slice none 0 0]) ?_ 0 _ rfl; exact HS.out.2.2.2.1) Try.underlying117 rfl (by kernel_rfl)) rfl ?_
      refine ⟨_, _, _, rfl, ?_, below_set (below_set (HS.out.1) ge_g6.out) ge_g6.out⟩
      rw [HE.out]
      exact BD.set (b := false) (BD.set (BD.below HQ.out (HS.out.2.2.2.2.1)) (HS.out.2.2.2.1) 0 _) (blk_put (HS.out.2.2.2.1) 0 _ rfl) 1 _
    have HE : Aside0 (evenN a b = a / b + Int.toNat 1) := ⟨by unfold evenN; rw [if_neg (by omega), if_pos (.inr ⟨h4, by omega⟩)]; rfl⟩
    have hT : Int.tmod x 2 = 1 := by
      rw [ex, Int.tmod_eq_emod_of_nonneg (by omega)]
      omega
    clear ex h2 h3 h4 hr1 h5 h6
    go_upto_region 18 with fail
    have HT : Aside0 (Below w.heap.size w v12_.drew ∧ v12_.drew.heap[g3]? = some (.cells #[.bool false, .slice A m c] 117 (0, 0)) ∧ v12_.drew.heap[g4]? = some (.cells #[.bool false, .slice A2 m2 c2] 117 (0, 0)) ∧ v12_.drew.heap[g6]? = some (.cells #[.bool false, .slice none 0 0] 117 (0, 0)) ∧ Below v4_.heap.size v4_ v12_.drew ∧ v12_.drew.heap[g7]? = some (.cells #[.bool false, .slice (some adq) mq cq] 117 (0, 0)) ∧ v12_.drew.heap[g8]? = some (.cells #[.bool false, .slice Ar mr cr] 117 (0, 0))) := ⟨⟨below_drew1 (HS.out.1), blk_drew (HS.out.2.1), blk_drew (HS.out.2.2.1), blk_drew (HS.out.2.2.2.1), below_drew1 (HS.out.2.2.2.2.1), blk_drew (HS.out.2.2.2.2.2.1), blk_drew (HS.out.2.2.2.2.2.2)⟩⟩
    clear HS
    have HS := HT
    clear HT
    refine start_ (n := 4) (S := (fun W_ => W_.cell? ⟨g7, 0, none⟩ = some (.bool false) ∧ W_.cell? ⟨g7, 1, none⟩ = some (.slice (some adq) mq cq))) (ds := [3]) #[false, false, false, false] (by kernel_rfl) rfl rfl (⟨(blk_cell (HS.out.2.2.2.2.2.1) 0).trans rfl, (blk_cell (HS.out.2.2.2.2.2.1) 1).trans rfl⟩) (fun hHeld => ?_)
    generalize v12_.drew = v13_ at HS hHeld ⊢
    refine take_ (i := 0) (N := some 65) (v := ?_) (a' := ?_) #[true, false, false, false] rfl rfl (by kernel_rfl) (fun _ _ _ h => h) (Or.inl ⟨by rfl, ?_⟩) hHeld ?_ ?_
    rotate_left
    · rintro w' ⟨s0, s1⟩
      go_simp
      with_reducible rfl
    rotate_left
    · simp only [Act.put, List.setIfInBounds_toArray, List.set_cons_zero, List.set_cons_succ, i64_w, i32_w]
      rfl
    refine one_ (i := 1) (N := some 66) #[true, true, false, false] rfl rfl (by kernel_rfl) (by decide) (fun K hK => ?_)
    refine goes_ Try.func74 (by kernel_rfl) rfl #[.int .i64 1] (by rfl) rfl rfl (by (try simp only [List.map_toArray, List.map_cons, List.map_nil]); first | done | rfl) ?_
    with_reducible refine (big_of0 (x := 1) (by decide) (by decide) _).mono ?_
    rintro e v14_ ⟨Ao, mo, co, rfl, ho_, hb⟩
    refine ⟨_, rfl, ?_⟩
    have HO := Aside0.mk ho_
    clear ho_
    have HT : Aside0 (Below w.heap.size w v14_ ∧ v14_.heap[g3]? = some (.cells #[.bool false, .slice A m c] 117 (0, 0)) ∧ v14_.heap[g4]? = some (.cells #[.bool false, .slice A2 m2 c2] 117 (0, 0)) ∧ v14_.heap[g6]? = some (.cells #[.bool false, .slice none 0 0] 117 (0, 0)) ∧ Below v4_.heap.size v4_ v14_ ∧ v14_.heap[g7]? = some (.cells #[.bool false, .slice (some adq) mq cq] 117 (0, 0)) ∧ v14_.heap[g8]? = some (.cells #[.bool false, .slice Ar mr cr] 117 (0, 0))) := ⟨⟨below_step HS.out.1 hb, blk_below HS.out.2.1 hb, blk_below HS.out.2.2.1 hb, blk_below HS.out.2.2.2.1 hb, below_step HS.out.2.2.2.2.1 hb, blk_below HS.out.2.2.2.2.2.1 hb, blk_below HS.out.2.2.2.2.2.2 hb⟩⟩
    clear HS
    have HS := HT
    clear HT
    refine hK.out _ _ (⟨(blk_cell (HS.out.2.2.2.2.2.1) 0).trans rfl, (blk_cell (HS.out.2.2.2.2.2.1) 1).trans rfl⟩) (fun hHeld => ?_)
    clear hK K
    refine norm_ (a' := ?_) ?_ ?_
    rotate_left
    · show Act.put _ (some 66) _ = _
      simp only [Act.put, List.setIfInBounds_toArray, List.set_cons_zero, List.set_cons_succ, i64_w, i32_w]
      rfl
    refine one_ (i := 2) (N := some 67) #[true, true, true, false] rfl rfl (by kernel_rfl) (by decide) (fun K hK => ?_)
    refine goes_ Try.func118 (by kernel_rfl) rfl #[.agg #[.bool false, .slice (some adq) mq cq], .agg #[.bool false, .slice Ao mo co]] (by rfl) rfl rfl (by (try simp only [List.map_toArray, List.map_cons, List.map_nil]); first | done | rfl) ?_
    with_reducible refine (big_plus0 (BD.below HQ.out (HS.out.2.2.2.2.1)) HO.out HSQ.out HS1.out).mono ?_
    rintro e v15_ ⟨Ap, mp, cp, rfl, hp_, hb⟩
    refine ⟨_, rfl, ?_⟩
    have HP := Aside0.mk hp_
    clear hp_
    have HT : Aside0 (Below w.heap.size w v15_ ∧ v15_.heap[g3]? = some (.cells #[.bool false, .slice A m c] 117 (0, 0)) ∧ v15_.heap[g4]? = some (.cells #[.bool false, .slice A2 m2 c2] 117 (0, 0)) ∧ v15_.heap[g6]? = some (.cells #[.bool false, .slice none 0 0] 117 (0, 0)) ∧ Below v4_.heap.size v4_ v15_ ∧ v15_.heap[g7]? = some (.cells #[.bool false, .slice (some adq) mq cq] 117 (0, 0)) ∧ v15_.heap[g8]? = some (.cells #[.bool false, .slice Ar mr cr] 117 (0, 0))) := ⟨⟨below_step HS.out.1 hb, blk_below HS.out.2.1 hb, blk_below HS.out.2.2.1 hb, blk_below HS.out.2.2.2.1 hb, below_step HS.out.2.2.2.2.1 hb, blk_below HS.out.2.2.2.2.2.1 hb, blk_below HS.out.2.2.2.2.2.2 hb⟩⟩
    clear HS
    have HS := HT
    clear HT
    refine hK.out _ _ (⟨(blk_cell (HS.out.2.2.2.2.2.1) 0).trans rfl, (blk_cell (HS.out.2.2.2.2.2.1) 1).trans rfl⟩) (fun hHeld => ?_)
    clear hK K
    refine norm_ (a' := ?_) ?_ ?_
    rotate_left
    · show Act.put _ (some 67) _ = _
      simp only [Act.put, List.setIfInBounds_toArray, List.set_cons_zero, List.set_cons_succ, i64_w, i32_w]
      rfl
    refine last_ (i := 3) (N := none) #[true, true, true, true] rfl rfl (by kernel_rfl) (by decide) (fun K hK => ?_)
    have cv15__g4_0 : v15_.cell? ⟨g4, 0, none⟩ = some (.bool false) := (blk_cell (HS.out.2.2.1) 0).trans rfl
    have cv15__g4_1 : v15_.cell? ⟨g4, 1, none⟩ = some (.slice A2 m2 c2) := (blk_cell (HS.out.2.2.1) 1).trans rfl
    have cv15__g6_0 : v15_.cell? ⟨g6, 0, none⟩ = some (.bool false) := (blk_cell (HS.out.2.2.2.1) 0).trans rfl
    have zv15__g6_0 : v15_.frozen? ⟨g6, 0, none⟩ = false := blk_frozen (HS.out.2.2.2.1) 0
    have cv15__g6_1 : v15_.cell? ⟨g6, 1, none⟩ = some (.slice none 0 0) := (blk_cell (HS.out.2.2.2.1) 1).trans rfl
    have zv15__g6_1 : v15_.frozen? ⟨g6, 1, none⟩ = false := blk_frozen (HS.out.2.2.2.1) 1
    have cv15__g7_0 : v15_.cell? ⟨g7, 0, none⟩ = some (.bool false) := (blk_cell (HS.out.2.2.2.2.2.1) 0).trans rfl
    have zv15__g7_0 : v15_.frozen? ⟨g7, 0, none⟩ = false := blk_frozen (HS.out.2.2.2.2.2.1) 0
    have cv15__g7_1 : v15_.cell? ⟨g7, 1, none⟩ = some (.slice (some adq) mq cq) := (blk_cell (HS.out.2.2.2.2.2.1) 1).trans rfl
    have zv15__g7_1 : v15_.frozen? ⟨g7, 1, none⟩ = false := blk_frozen (HS.out.2.2.2.2.2.1) 1
    have cv15__g8_0 : v15_.cell? ⟨g8, 0, none⟩ = some (.bool false) := (blk_cell (HS.out.2.2.2.2.2.2) 0).trans rfl
    have zv15__g8_0 : v15_.frozen? ⟨g8, 0, none⟩ = false := blk_frozen (HS.out.2.2.2.2.2.2) 0
    have cv15__g8_1 : v15_.cell? ⟨g8, 1, none⟩ = some (.slice Ar mr cr) := (blk_cell (HS.out.2.2.2.2.2.2) 1).trans rfl
    have zv15__g8_1 : v15_.frozen? ⟨g8, 1, none⟩ = false := blk_frozen (HS.out.2.2.2.2.2.2) 1
    refine skip_ (w1 := ?_) (by rfl) rfl ?_ ?_
    rotate_left
    · go_simp
      rfl
    refine hK.out _ _ ?_
    clear hK K
    refine done_ (by kernel_rfl) ?_
    have HP2 := Aside0.mk (BD.set (b := false) (BD.set (b := false) HP.out (HS.out.2.2.2.2.2.1) 0 (.bool false)) (blk_put (HS.out.2.2.2.2.2.1) 0 (.bool false) rfl) 1 (.slice Ap mp cp))
    obtain ⟨v16_, hw_v16_⟩ : ∃ z_, z_ = ((v15_).setCell ⟨g7, 0, none⟩ (.bool false)).setCell ⟨g7, 1, none⟩ (.slice Ap mp cp) := ⟨_, rfl⟩
    have HT : Aside0 (Below w.heap.size w v16_ ∧ v16_.heap[g3]? = some (.cells #[.bool false, .slice A m c] 117 (0, 0)) ∧ v16_.heap[g4]? = some (.cells #[.bool false, .slice A2 m2 c2] 117 (0, 0)) ∧ v16_.heap[g6]? = some (.cells #[.bool false, .slice none 0 0] 117 (0, 0)) ∧ Below v4_.heap.size v4_ v16_ ∧ v16_.heap[g7]? = some (.cells #[.bool false, .slice Ap mp cp] 117 (0, 0)) ∧ v16_.heap[g8]? = some (.cells #[.bool false, .slice Ar mr cr] 117 (0, 0))) := ⟨hw_v16_ ▸ ⟨below_set (below_set (HS.out.1) (ge_g7.out)) (ge_g7.out), blk_far (blk_far (HS.out.2.1) ne_g3_g7 (.bool false)) ne_g3_g7 (.slice Ap mp cp), blk_far (blk_far (HS.out.2.2.1) ne_g4_g7 (.bool false)) ne_g4_g7 (.slice Ap mp cp), blk_far (blk_far (HS.out.2.2.2.1) ne_g6_g7 (.bool false)) ne_g6_g7 (.slice Ap mp cp), below_set (below_set (HS.out.2.2.2.2.1) (gx_v4__g7.out)) (gx_v4__g7.out), blk_put (blk_put (HS.out.2.2.2.2.2.1) 0 (.bool false) (cs' := #[.bool false, .slice (some adq) mq cq]) rfl) 1 (.slice Ap mp cp) (cs' := #[.bool false, .slice Ap mp cp]) rfl, blk_far (blk_far (HS.out.2.2.2.2.2.2) ne_g8_g7 (.bool false)) ne_g8_g7 (.slice Ap mp cp)⟩⟩
    clear HS
    have HS := HT
    clear HT
    rw [← hw_v16_]
    rw [← hw_v16_] at HP2
    clear hw_v16_
    have cv16__g4_0 : v16_.cell? ⟨g4, 0, none⟩ = some (.bool false) := (blk_cell (HS.out.2.2.1) 0).trans rfl
    have cv16__g4_1 : v16_.cell? ⟨g4, 1, none⟩ = some (.slice A2 m2 c2) := (blk_cell (HS.out.2.2.1) 1).trans rfl
    have cv16__g6_0 : v16_.cell? ⟨g6, 0, none⟩ = some (.bool false) := (blk_cell (HS.out.2.2.2.1) 0).trans rfl
    have zv16__g6_0 : v16_.frozen? ⟨g6, 0, none⟩ = false := blk_frozen (HS.out.2.2.2.1) 0
    have cv16__g6_1 : v16_.cell? ⟨g6, 1, none⟩ = some (.slice none 0 0) := (blk_cell (HS.out.2.2.2.1) 1).trans rfl
    have zv16__g6_1 : v16_.frozen? ⟨g6, 1, none⟩ = false := blk_frozen (HS.out.2.2.2.1) 1
    have cv16__g7_0 : v16_.cell? ⟨g7, 0, none⟩ = some (.bool false) := (blk_cell (HS.out.2.2.2.2.2.1) 0).trans rfl
    have zv16__g7_0 : v16_.frozen? ⟨g7, 0, none⟩ = false := blk_frozen (HS.out.2.2.2.2.2.1) 0
    have cv16__g7_1 : v16_.cell? ⟨g7, 1, none⟩ = some (.slice Ap mp cp) := (blk_cell (HS.out.2.2.2.2.2.1) 1).trans rfl
    have zv16__g7_1 : v16_.frozen? ⟨g7, 1, none⟩ = false := blk_frozen (HS.out.2.2.2.2.2.1) 1
    have cv16__g8_0 : v16_.cell? ⟨g8, 0, none⟩ = some (.bool false) := (blk_cell (HS.out.2.2.2.2.2.2) 0).trans rfl
    have zv16__g8_0 : v16_.frozen? ⟨g8, 0, none⟩ = false := blk_frozen (HS.out.2.2.2.2.2.2) 0
    have cv16__g8_1 : v16_.cell? ⟨g8, 1, none⟩ = some (.slice Ar mr cr) := (blk_cell (HS.out.2.2.2.2.2.2) 1).trans rfl
    have zv16__g8_1 : v16_.frozen? ⟨g8, 1, none⟩ = false := blk_frozen (HS.out.2.2.2.2.2.2) 1
    go_wp2_with fail
    refine bodyPost_ret (results_cell_row rfl _ _ g6 117 #[.bool false, .slice Ap mp cp] (0, 0) _ rfl (by refine blk_put (cs := #[.bool false, .slice none 0 0]) ?_ 1 _ rfl; refine blk_put (cs := #[.bool false, .slice none 0 0]) ?_ 0 _ rfl; exact HS.out.2.2.2.1) Try.underlying117 rfl (by kernel_rfl)) rfl ?_
    refine ⟨_, _, _, rfl, ?_, below_set (below_set (HS.out.1) ge_g6.out) ge_g6.out⟩
    rw [HE.out]
    exact BD.set (b := false) (BD.set HP2.out (HS.out.2.2.2.1) 0 _) (blk_put (HS.out.2.2.2.1) 0 _ rfl) 1 _
end Go.Proofs.Ythkfahkkcjagdaa
namespace Go.Proofs.Ythkfahkkcjagdaa
open PClassingBases Go.RowKit Go.Proofs.YthkfahkkcjagdaaW.PrintWords Go.Proofs.YthkfahkkcjagdaaW.PrintMore Go.Proofs.YthkfahkkcjagdaaW.PrintLast

theorem u64_id {n : Int} (h0 : 0 ≤ n) (h1 : n ≤ 18446744073709551615) : IntKind.u64.wrap n = n := IntWalk.u64_in n ⟨h0, h1⟩
theorem gcdI_ev : ∀ (b a : Nat), Ev (fun k => num_gcd.l0 k (a : Int) (b : Int)) ((Nat.gcd a b : Nat) : Int) := by
  intro b
  induction b using Nat.strongRecOn with
  | _ b ih =>
    intro a
    by_cases h0 : b = 0
    · subst h0
      rw [Nat.gcd_zero_right]
      exact Ev.step (f := fun _ => some (a : Int)) (fun k => by simp only [num_gcd.l0]; rw [if_pos (by omega)]) (Ev.now _)
    · have hpos : 0 < b := by omega
      have h1 := ih (a % b) (Nat.mod_lt _ hpos) b
      have e : Nat.gcd a b = Nat.gcd b (a % b) := by rw [Nat.gcd_comm a b, Nat.gcd_rec b a, Nat.gcd_comm]
      rw [e]
      refine Ev.step (f := fun k => num_gcd.l0 k (b : Int) ((a % b : Nat) : Int)) (fun k => ?_) h1
      simp only [num_gcd.l0]
      rw [if_neg (by omega)]
      rfl
theorem made_ev {a b : Nat} (h0 : 0 < b) (ha : (a : Int) ≤ 1000000) (hb : (b : Int) ≤ 1000000) : Ev (fun k => num_made.f k false (a : Int) (b : Int)) (((a / Nat.gcd a b : Nat) : Int), ((b / Nat.gcd a b : Nat) : Int), 0) := by
  have hg := Nat.gcd_pos_of_pos_right a h0
  have h1 := gcdI_ev b a
  generalize Nat.gcd a b = g at *
  have q1 : a / g ≤ a := Nat.div_le_self _ _
  have q2 : b / g ≤ b := Nat.div_le_self _ _
  have e1 : Int.tdiv (a : Int) (g : Int) = ((a / g : Nat) : Int) := rfl
  have e2 : Int.tdiv (b : Int) (g : Int) = ((b / g : Nat) : Int) := rfl
  generalize a / g = p at *
  generalize b / g = q at *
  refine Ev.bind h1 (Ev.congr (f := fun k => num_made.j0 k false (p : Int) (q : Int) false) (fun k => ?_) ?_)
  · rw [if_neg (by omega), e1, e2, u64_id (n := (p : Int)) (by omega) (by omega), u64_id (n := (q : Int)) (by omega) (by omega), if_neg (by omega), decide_eq_false (by omega)]
  · refine Ev.step (f := fun _ => some ((p : Int), (q : Int), 0)) (fun k => ?_) (Ev.now _)
    simp only [num_made.j0]
    rw [if_neg (by decide), if_neg (by decide), wrap_id (x := (p : Int)) (by omega) (by omega), wrap_id (x := (q : Int)) (by omega) (by omega)]
theorem make_ev {a b : Nat} (h0 : 0 < b) (ha : (a : Int) ≤ 1000000) (hb : (b : Int) ≤ 1000000) : Ev (fun k => num_Make.f k (a : Int) (b : Int)) (((a / Nat.gcd a b : Nat) : Int), ((b / Nat.gcd a b : Nat) : Int), 0) := by
  refine Ev.congr (f := fun k => (num_made.f k false (a : Int) (b : Int)).bind fun bt => some (bt.1, bt.2.1, bt.2.2)) (fun k => ?_) (Ev.bind (made_ev h0 ha hb) (Ev.now _))
  unfold num_Make.f num_size.f
  rw [if_neg (by omega), if_neg (by omega), if_neg (by omega), u64_id (n := (a : Int)) (by omega) (by omega), u64_id (n := (b : Int)) (by omega) (by omega), decide_eq_false (by omega), decide_eq_false (by omega)]
  rfl
end Go.Proofs.Ythkfahkkcjagdaa
namespace Go.Proofs.Ythkfahkkcjagdaa
open PClassingBases Go.RowKit Go.Proofs.YthkfahkkcjagdaaW.PrintWords Go.Proofs.YthkfahkkcjagdaaW.PrintMore Go.Proofs.YthkfahkkcjagdaaW.PrintLast
set_option linter.unusedVariables false
set_option linter.unusedSimpArgs false

theorem Sm_small {n : Nat} (h : n < 100000000000000000000) : Sm n := Nat.le_trans (dig_len_lt (e := 5) h) (by decide)
theorem Sm_small9 {n : Nat} (h : n < 100000000000000000000) : (dig n).length ≤ 99 := Nat.le_trans (dig_len_lt (e := 5) h) (by decide)
end Go.Proofs.Ythkfahkkcjagdaa
namespace Go.Proofs.Ythkfahkkcjagdaa
open PClassingBases Go.RowKit Go.Proofs.YthkfahkkcjagdaaW.PrintWords Go.Proofs.YthkfahkkcjagdaaW.PrintMore Go.Proofs.YthkfahkkcjagdaaW.PrintLast
set_option linter.unusedVariables false
set_option linter.unusedSimpArgs false

theorem evenN_eq (a : Nat) {b : Nat} (hb : 0 < b) : (evenN a b : Int) = evenF (a : Int) (b : Int) := by
  unfold evenN evenF
  have e1 : (a : Int) % (b : Int) = ((a % b : Nat) : Int) := rfl
  have e2 : (a : Int) / (b : Int) = ((a / b : Nat) : Int) := rfl
  rw [e1, e2]
  have hr := Nat.mod_lt a hb
  generalize a % b = r at *
  generalize a / b = q at *
  by_cases h0 : r = 0
  · rw [if_pos h0, if_neg (by omega)]
  · rw [if_neg h0]
    by_cases h1 : b < r + r ∨ (r + r = b ∧ q % 2 = 1)
    · rw [if_pos h1, if_pos (by omega)]; omega
    · rw [if_neg h1, if_neg (by omega)]
theorem evenN_le {a b K : Nat} (hb : 0 < b) (h : a ≤ b * K) : evenN a b ≤ K + 1 := by
  have h1 : a / b ≤ K := Nat.div_le_of_le_mul h
  unfold evenN
  split
  · omega
  · split <;> omega
/-- What the last line of Yield calls, for a numerator and a denominator. -/
abbrev QC (n d : Int) : Prop :=
  (∀ w, Calls Try.prog 74 #[.int .i64 n] w fun e w' => ∃ A m c, e = .returned (.agg #[.bool false, .slice A m c]) ∧ BD w' (.slice A m c) n.toNat ∧ Below w.heap.size w w') ∧
  (∀ w, Calls Try.prog 74 #[.int .i64 d] w fun e w' => ∃ A m c, e = .returned (.agg #[.bool false, .slice A m c]) ∧ BD w' (.slice A m c) d.toNat ∧ Below w.heap.size w w') ∧
  (∀ {u v : Value} {w : World}, BD w u n.toNat → BD w v d.toNat → Calls Try.prog 79 #[.agg #[.bool false, u], .agg #[.bool false, v], .int .i64 4] w fun e w' => ∃ A m c, e = .returned (.agg #[.bool false, .slice A m c]) ∧ BD w' (.slice A m c) (evenN n.toNat d.toNat) ∧ Below w.heap.size w w') ∧
  (∀ {u : Value} {w : World}, BD w u (evenN n.toNat d.toNat) → Calls Try.prog 78 #[.agg #[.bool false, u], .int .i64 1125899906842624] w fun e w' => e = .returned (.tuple #[.int .i64 (evenF n d), .bool true]) ∧ Below w.heap.size w w')
theorem quot_any {n d : Int} {K : Nat} (hn : 0 ≤ n) (hd : 1 ≤ d) (hn2 : n ≤ 9223372036854775807) (hd2 : d ≤ 9223372036854775807) (h : n.toNat ≤ d.toNat * K) (hK : K ≤ 1000000000000) : QC n d := by
  have e := evenN_eq n.toNat (b := d.toNat) (by omega)
  rw [show ((n.toNat : Nat) : Int) = n by omega, show ((d.toNat : Nat) : Int) = d by omega] at e
  have l := evenN_le (by omega) h
  refine ⟨big_of0 hn hn2, big_of0 (by omega) hd2, fun hu hv => rounded_any hu hv (Sm_small (by omega)) (by omega) (Sm_small9 (by omega)), fun {u w} hu => ?_⟩
  have := big_within0 (most := 1125899906842624) hu (Sm_small (by omega)) (by decide) (by decide) (by omega)
  rwa [e] at this
theorem toNat_le_mul {n d : Int} {K : Nat} (hn : 0 ≤ n) (hd : 0 ≤ d) (h : n ≤ d * K) : n.toNat ≤ d.toNat * K := by
  have : ((d.toNat * K : Nat) : Int) = d * K := by rw [Int.natCast_mul, Int.toNat_of_nonneg hd]
  omega
end Go.Proofs.Ythkfahkkcjagdaa
namespace Go.Proofs.Ythkfahkkcjagdaa
open PClassingBases Go.RowKit Go.Proofs.YthkfahkkcjagdaaW.PrintWords Go.Proofs.YthkfahkkcjagdaaW.PrintMore Go.Proofs.YthkfahkkcjagdaaW.PrintLast
set_option linter.unusedVariables false
set_option linter.unusedSimpArgs false
end Go.Proofs.Ythkfahkkcjagdaa
end
