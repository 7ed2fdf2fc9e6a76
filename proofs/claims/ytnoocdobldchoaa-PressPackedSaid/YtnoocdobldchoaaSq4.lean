/- The stable sort of fewer than twenty numbers; the makespan of an order; what Sequence answers. -/
import Derived.Test.YtnoocdobldchoaaSq3
namespace Go.Proofs.Ytnoocdobldchoaa
open Go.RowKit Go.Proofs.YtnoocdobldchoaaW.PrintWords Go.Proofs.YtnoocdobldchoaaW.PrintMore Go.Proofs.YtnoocdobldchoaaW.PrintLast

/-- What the stable sort of a list leaves. -/
def SortsTo (f : Nat) (cf : Int → Int → Int) (dom : Int → Prop) (k b g : Nat) (I : World → Prop) (xs : List Int) : Prop :=
  ∀ (w : World), (∀ x ∈ xs, dom x) → Blk w g (ints xs) 3 → I w → CmpC k b I cf dom g →
    Calls Try.prog f #[.slice (some ⟨g, 0, none⟩) xs.length xs.length, .func (.func k) #[] #[.pointer (some ⟨b, 0, none⟩)]] w
      fun e w' => e = .returned (.tuple #[]) ∧ Kp (fun i => i = g) w w' ∧ Blk w' g (ints (srt cf xs)) 3

theorem stable_few {k b g : Nat} {I : World → Prop} {cf : Int → Int → Int} {dom : Int → Prop} (hC : CmpC k b I cf dom g) (xs : List Int) (hx : ∀ x ∈ xs, dom x) (w : World) (hg : Blk w g (ints xs) 3) (hI : I w) (hn : xs.length < 20) :
    Calls Try.prog 71 #[.slice (some ⟨g, 0, none⟩) xs.length xs.length, .int .i64 xs.length, .func (.func k) #[] #[.pointer (some ⟨b, 0, none⟩)]] w
      fun e w' => e = .returned (.tuple #[]) ∧ Kp (fun i => i = g) w w' ∧ Blk w' g (ints (srt cf xs)) 3 := by
  have hs := isort_any hC xs hx w hg hI 0 xs.length (by omega) (by omega) xs.length xs.length (by omega) (by omega)
  rw [List.drop_zero, Nat.sub_zero, List.take_length, List.drop_length, List.take_zero, List.append_nil, List.nil_append] at hs
  rw [show ((0 : Nat) : Int) = 0 from rfl] at hs
  have HS := Aside0.mk hs; clear hs hC hx hg hI
  have hn' : (xs.length : Int) < 20 := by omega
  go_enter Try.func71, Try.ntmps71
  go_wp2_with fail
  refine wp_loop_rounds 1 ?_
  rw [rounds_succ]
  go_wp2_with ((with_reducible refine HS.out.mono ?_); rintro e5 w5 ⟨rfl, hk5, hb5⟩; have HK5 := Aside0.mk (And.intro hk5 hb5); clear hk5 hb5)
  refine wp_loop_rounds 1 ?_
  rw [rounds_succ]
  go_wp2_with fail
  go_end0
  exact ⟨rfl, HK5.out⟩
theorem sortsFew {k b g : Nat} {I : World → Prop} {cf : Int → Int → Int} {dom : Int → Prop} (xs : List Int) (hn : xs.length < 20) : SortsTo 53 cf dom k b g I xs := by
  intro w hx hg hI hC
  have HS := Aside0.mk (stable_few hC xs hx w hg hI hn)
  clear hC hx hg hI
  go_enter Try.func53, Try.ntmps53
  go_wp2_with ((with_reducible refine HS.out.mono ?_); rintro e5 w5 ⟨rfl, hk5, hb5⟩; have HK5 := Aside0.mk (And.intro hk5 hb5); clear hk5 hb5)
  go_end0
  exact ⟨rfl, HK5.out⟩

/-- One dump more: when it is pressed, when it is strapped. -/
def spStep (ds : List (Int × Int)) (s : Int × Int) (i : Int) : Int × Int := (s.1 + (rdP ds i).1, max s.2 (s.1 + (rdP ds i).1) + (rdP ds i).2)
def spanF (ds : List (Int × Int)) (order : List Int) : Int := (order.foldl (spStep ds) (0, 0)).2
def DOK (ds : List (Int × Int)) : Prop := ds.length ≤ 64 ∧ ∀ i, i < ds.length → (0 ≤ (ds.getD i (0, 0)).1 ∧ (ds.getD i (0, 0)).1 ≤ 1073741824) ∧ 0 ≤ (ds.getD i (0, 0)).2 ∧ (ds.getD i (0, 0)).2 ≤ 1073741824
theorem DOK.at_ {ds : List (Int × Int)} (h : DOK ds) (i : Int) (h0 : 0 ≤ i) (h1 : i < ds.length) : (0 ≤ (rdP ds i).1 ∧ (rdP ds i).1 ≤ 1073741824) ∧ 0 ≤ (rdP ds i).2 ∧ (rdP ds i).2 ≤ 1073741824 := h.2 i.toNat (by omega)
theorem DOK.of_E {ds : List (Int × Int)} (h : dumpsE ds = 0) : DOK ds := by
  unfold dumpsE at h
  by_cases h1 : 64 < ds.length
  · rw [if_pos h1] at h; omega
  · rw [if_neg h1] at h
    by_cases h2 : ds.any badD = true
    · rw [if_pos h2] at h; omega
    · refine ⟨by omega, fun i hi => ?_⟩
      rw [List.getD_eq_getElem?_getD, List.getElem?_eq_getElem hi]
      simp only [Bool.not_eq_true, List.any_eq_false] at h2
      have := h2 ds[i] (List.getElem_mem hi)
      unfold badD okMin at this
      simp at this ⊢
      omega

set_option maxHeartbeats 2000000 in
theorem span_any (w : World) (A B : Option Addr) (c d : Nat) (ds : List (Int × Int)) (order : List Int) (h : kP.C w A ds.length ds) (k : (Kd.int .i64).C w B order.length order) (hd : DOK ds) (ho : ∀ x ∈ order, 0 ≤ x ∧ x < ds.length) (hol : order.length ≤ 64) :
    Calls Try.prog 61 #[.slice A ds.length c, .slice B order.length d] w fun e w' => e = .returned (.int .i64 (spanF ds order)) ∧ w = w' := by
  have HA := Aside0.mk h; clear h
  have HB := Aside0.mk k; clear k
  have HD := Aside0.mk hd; clear hd
  have HO := Aside0.mk ho; clear ho
  go_enter Try.func61, Try.ntmps61
  go_wp2_with fail
  go_loop [5, 6, 11] (fun v5 v6 v => ∃ (p s i : Int), v5 = .int .i64 p ∧ v6 = .int .i64 s ∧ v = .int .i64 i ∧ 0 ≤ i ∧ i ≤ order.length ∧ 0 ≤ p ∧ p ≤ i * 1073741824 ∧ 0 ≤ s ∧ s ≤ i * 2147483648 ∧ Aside0 ((order.drop i.toNat).foldl (spStep ds) (p, s) = order.foldl (spStep ds) (0, 0))) (fun _ _ v => order.length - (intOf v).toNat)
  case atStart => exact ⟨0, 0, 0, rfl, rfl, rfl, by omega, by omega, by omega, by omega, by omega, by omega, ⟨rfl⟩⟩
  case round =>
    obtain ⟨p, s, i, rfl, rfl, rfl, h0, h1, hp0, hp1, hs0, hs1, he⟩ := hrel
    by_cases hlt : i < order.length
    · obtain ⟨ad, e1, g1⟩ := Kd.at_int HB.out i h0 hlt
      subst e1
      have he2 := he.out
      rw [dropP order 0 i h0 hlt, List.foldl_cons] at he2
      have hmem : order.getD i.toNat 0 ∈ order := by
        rw [List.getD_eq_getElem?_getD, List.getElem?_eq_getElem (show i.toNat < order.length by omega)]
        exact List.getElem_mem _
      have hj := HO.out _ hmem
      obtain ⟨j, hjj⟩ : ∃ z, z = order.getD i.toNat 0 := ⟨_, rfl⟩
      rw [← hjj] at he2 hj
      have g1' : w.cell? (ad.add i.toNat) = some (.int .i64 j) := by rw [hjj]; exact g1
      clear hjj g1 hmem he
      obtain ⟨hj0, hj1⟩ := hj
      obtain ⟨ad2, e2, g2, g3⟩ := at_P HA.out j hj0 hj1
      subst e2
      have hdk := HD.out.at_ j hj0 hj1
      unfold spStep at he2
      generalize rdP ds j = x at *
      obtain ⟨x1, x2⟩ := x
      dsimp only at g2 g3 hdk he2
      have HE := Aside0.mk he2; clear he2
      by_cases hm : s < p + x1
      · go_wp2_with fail
        go_round
        case rel =>
          have := HE.out
          rw [show max s (p + x1) = p + x1 by omega] at this
          exact ⟨p + x1, p + x1 + x2, i + 1, by go_num, by go_num, by go_num, by omega, by omega, by omega, by omega, by omega, by omega, ⟨this⟩⟩
        case measure => simp [intOf]; omega
      · go_wp2_with fail
        go_round
        case rel =>
          have := HE.out
          rw [show max s (p + x1) = s by omega] at this
          exact ⟨p + x1, s + x2, i + 1, by go_num, by go_num, by go_num, by omega, by omega, by omega, by omega, by omega, by omega, ⟨this⟩⟩
        case measure => simp [intOf]; omega
    · go_wp2_with fail
      go_ret
      have he2 := he.out
      rw [show i.toNat = order.length by omega, List.drop_length] at he2
      exact ⟨ret_int (by unfold spanF; rw [← he2]; rfl), rfl⟩
end Go.Proofs.Ytnoocdobldchoaa
