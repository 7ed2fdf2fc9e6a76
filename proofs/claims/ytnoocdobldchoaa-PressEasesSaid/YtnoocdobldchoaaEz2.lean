/- What PressEases answers. -/
import Derived.Test.YtnoocdobldchoaaD3
import Derived.Test.YtnoocdobldchoaaB2
import Derived.Laws.AppendOwnNone
namespace Go.Proofs.Ytnoocdobldchoaa
open Go.RowKit Go.Proofs.YtnoocdobldchoaaW.PrintWords Go.Proofs.YtnoocdobldchoaaW.PrintMore Go.Proofs.YtnoocdobldchoaaW.PrintLast

theorem eases_far (w : World) (A : Option Addr) (c n : Nat) (most each p more : Int) (hn : 11 < n) :
    Calls Try.prog 5 #[.slice A n c, .int .i64 most, .int .i64 each, .int .i64 p, .int .u8 more] w fun e w' => e = .returned (.bool true) ∧ Below w.heap.size w w' := by
  have ha := Aside0.mk (alive_any w)
  have g1 : ((n : Int) > 11) := by omega
  go_enter Try.func5, Try.ntmps5
  go_wp2_with ((with_reducible refine ha.out.mono ?_); rintro e2 w2 ⟨rfl, hb⟩)
  go_ret
  exact ⟨rfl, hb⟩
theorem pack_num (w : World) (A : Option Addr) (c : Nat) (ms : List Int) (most each : Int) (h : (Kd.int .i64).C w A ms.length ms) :
    Calls Try.prog 17 #[.slice A ms.length c, .int .i64 most, .int .i64 each] w fun e w' => ∃ (A2 : Option Addr) (n2 : Nat) (n : Int), e = .returned (.tuple #[.slice A2 n2 n2, .int .i64 n, .int .i64 (thingsE ms most each)]) ∧ Below w.heap.size w w' ∧ Num ms most each n :=
  (pack_best w A c ms most each h).mono fun _ _ ⟨A2, n2, n, l, h1, h2, _, h4⟩ => ⟨A2, n2, n, h1, h2, n2, l, h4⟩

theorem pack_more (w : World) (A : Option Addr) (c : Nat) (ms : List Int) (most each n m' e' : Int) (h : (Kd.int .i64).C w A ms.length ms) (hN : Num ms most each n) (he : thingsE ms most each = 0) (h1 : most ≤ m' ∧ m' ≤ 1073741824) (h2 : each ≤ e' ∧ e' ≤ 12) :
    Calls Try.prog 17 #[.slice A ms.length c, .int .i64 m', .int .i64 e'] w fun e w' => ∃ (A2 : Option Addr) (n2 : Nat) (k : Int), e = .returned (.tuple #[.slice A2 n2 n2, .int .i64 k, .int .i64 0]) ∧ Below w.heap.size w w' ∧ k ≤ n := by
  refine (pack_num w A c ms m' e' h).mono ?_
  rintro e w' ⟨A2, n2, k, rfl, hb, hk⟩
  obtain ⟨a, b⟩ := ease_room hN hk he h1 h2
  rw [a]
  exact ⟨A2, n2, k, rfl, hb, b⟩
theorem pack_plus (w : World) (A : Option Addr) (c : Nat) (ms : List Int) (most each n : Int) (hl : ms.length ≤ 11) (h : (Kd.int .i64).C w A (ms.length + 1) (ms ++ [1])) (hN : Num ms most each n) (he : thingsE ms most each = 0) :
    Calls Try.prog 17 #[.slice A (ms.length + 1) c, .int .i64 most, .int .i64 each] w fun e w' => ∃ (A2 : Option Addr) (n2 : Nat) (k : Int), e = .returned (.tuple #[.slice A2 n2 n2, .int .i64 k, .int .i64 0]) ∧ Below w.heap.size w w' ∧ n ≤ k ∧ k ≤ n + 1 := by
  have hp := pack_num w A c (ms ++ [1]) most each (by simpa using h)
  rw [show (ms ++ [(1 : Int)]).length = ms.length + 1 by simp] at hp
  refine hp.mono ?_
  rintro e w' ⟨A2, n2, k, rfl, hb, hk⟩
  obtain ⟨a, b⟩ := ease_plus hl hN hk he
  rw [a]
  exact ⟨A2, n2, k, rfl, hb, b⟩
theorem share_ok (w : World) (A : Option Addr) (c : Nat) (ts : List Int) (p : Int) (h : (Kd.int .i64).C w A ts.length ts) (hw : worksE ts p = 0) :
    Calls Try.prog 23 #[.slice A ts.length c, .int .i64 p] w fun e w' => ∃ (B : Option Addr) (cap : Nat) (F : Int) (l : List Int), e = .returned (.tuple #[.slice B ts.length cap, .int .i64 F, .int .i64 0]) ∧ Below w.heap.size w w' ∧ ShIs ts p.toNat F l := by
  refine (share_all w A c ts p h).mono ?_
  rintro e w' ⟨h1, h2⟩
  rw [if_pos hw] at h2
  obtain ⟨B, cap, F, l, h3, _, h4⟩ := h2
  exact ⟨B, cap, F, l, h3, h1, h4⟩
set_option maxRecDepth 100000 in
set_option maxHeartbeats 8000000 in
theorem eases_near (w : World) (A : Option Addr) (c : Nat) (ms : List Int) (most each p more : Int) (h : (Kd.int .i64).C w A ms.length ms) (hn : ms.length ≤ 11) (hmore : 0 ≤ more ∧ more ≤ 255) (hcap : A = none → c = 0) :
    Calls Try.prog 5 #[.slice A ms.length c, .int .i64 most, .int .i64 each, .int .i64 p, .int .u8 more] w fun e w' => e = .returned (.bool true) ∧ Below w.heap.size w w' := by
  have hp := pack_num w A c ms most each h
  have H := Aside0.mk h; clear h
  have g1 : ¬ ((ms.length : Int) > 11) := by omega
  obtain ⟨e0, he0⟩ : ∃ z, z = thingsE ms most each := ⟨_, rfl⟩
  rw [← he0] at hp
  have HP := Aside0.mk hp; clear hp
  have HE := Aside0.mk he0; clear he0
  obtain ⟨hmore0, hmore1⟩ := hmore
  go_enter Try.func5, Try.ntmps5
  go_upto_region 3 with fail
  go_cut [11, 12, 13] from 34 to 41 (fun a11 a12 a13 w1 => ∃ (A2 : Option Addr) (n2 : Nat) (n : Int), a11 = .slice A2 n2 n2 ∧ a12 = .int .i64 n ∧ a13 = .int .i64 e0 ∧ Aside0 (Below w.heap.size w w1) ∧ Aside0 (Num ms most each n))
  case first =>
    go_wp2_with ((with_reducible refine HP.out.mono ?_); rintro e1 w1 ⟨A2, n2, n, rfl, hb1, hN⟩; have H1 := Aside0.mk (And.intro hb1 hN); clear hb1 hN)
    go_meet
    case rel => exact ⟨A2, n2, n, rfl, rfl, rfl, ⟨H1.out.1⟩, ⟨H1.out.2⟩⟩
  case rest =>
  obtain ⟨A2, n2, n, rfl, rfl, rfl, HB1, HN⟩ := hcut
  obtain ⟨w1, hw1⟩ : ∃ z, z = wc := ⟨_, rfl⟩
  subst hw1
  clear HP g1
  go_upto_if 43 with fail
  go_cut [14, 15, 16, 17, 18, 19, 20, 21, 22, 23] from 44 to 114 (fun a14 a15 a16 a17 a18 a19 a20 a21 a22 a23 w2 => Aside0 (Below w.heap.size w w2))
  case first =>
    by_cases hz : e0 = 0
    · have hE := HE.out
      subst hz
      obtain ⟨_, ⟨hm0, hm1⟩, ⟨hc0, hc1⟩, _⟩ := ok_of_E hE.symm
      have HPA := Aside0.mk (fun W (hW : Below w.heap.size w W) (m' e' : Int) (h1 : most ≤ m' ∧ m' ≤ 1073741824) (h2 : each ≤ e' ∧ e' ≤ 12) => pack_more W A c ms most each n m' e' (Kd.C_below H.out hW) HN.out HE.out.symm h1 h2)
      obtain ⟨pn, hpn, hpn12, _⟩ : ∃ a : Nat, n = a ∧ a ≤ 12 ∧ True := by
        obtain ⟨a, _, h1, h2, _⟩ := HN.out.pos hE.symm
        exact ⟨a, h1, h2, trivial⟩
      have hn0 : 0 ≤ n := by omega
      have hn12 : n ≤ 12 := by omega
      clear hE hpn hpn12 pn
      go_upto_region 6 with ((with_reducible refine (HPA.out _ HB1.out _ _ (by omega) (by omega)).mono ?_); rintro e2 w2 ⟨A3, n3, k3, rfl, hb2, hk3⟩; have H2 := Aside0.mk (below_step HB1.out hb2); clear hb2)
      go_upto_region 7 with ((with_reducible refine (HPA.out _ H2.out _ _ (by omega) (by omega)).mono ?_); rintro e3 w3 ⟨A4, n4, k4, rfl, hb3, hk4⟩; have H3 := Aside0.mk (below_step H2.out hb3); clear hb3)
      clear HPA
      obtain ⟨i0, hi, hz0, hz1, hz2⟩ := info_parts info3
      have hlm : ms.length ≤ 11 := hn
      cases A with
      | none =>
        have hc0 : c = 0 := hcap rfl
        subst hc0
        have hm0' : ms = [] := by
          cases ms with
          | nil => rfl
          | cons a ms =>
            obtain ⟨_, e, _⟩ := Kd.at_int H.out 0 (by omega) (by simp only [List.length_cons]; omega)
            cases e
        subst hm0'
        have HNO : Aside0 (w3.ownsRow w3.heap.size 3 1 (.slice none 0 0) 0 []) := ⟨⟨rfl, .inl ⟨rfl, rfl⟩⟩⟩
        have HONE : Aside0 (∀ j u, ([.int .i64 1] : List Value)[j]? = some u → (w3.alloc (.cells #[.int .i64 1] 3)).cell? ((⟨w3.heap.size, 0, none⟩ : Addr).add j) = some u) := ⟨fun j u hj => by
          have b := (Blk.new w3 [.int .i64 1] 3).at_ hj
          rw [Addr.add_lit, Nat.zero_add]
          exact b⟩
        go_upto_region 9 with (at_builtin; refine wpList_append_own_none rfl _ _ 22 rfl w3.heap.size 3 i0 1 Try.underlying22 hi (.slice none 0 0) 0 [] rfl HNO.out rfl ?_)
        go_upto_region 10 with (at_builtin; refine wpList_append_own _ rfl _ _ 22 rfl w3.heap.size 3 i0 (.int .i64 0) 1 8 Try.underlying22 hi hz0 hz1 hz2 rfl (by decide) _ _ _ rfl (HNO.out.alloc _) ⟨w3.heap.size, 0, none⟩ 1 1 [.int .i64 1] rfl rfl HONE.out (by intro u hu; rw [List.mem_singleton.1 hu]; rfl) (by unfold maxLen; omega) (by omega) (by simp) ?_)
        intro v5 w5 hown5 hgrow5 hnil5
        have hb5 : Below w3.heap.size w3 w5 := ((Below.refl w3.heap.size w3).alloc (Nat.le_refl _) _).grown hgrow5 (by simp) (by intro k hk; simp [Value.ownBlock] at hk)
        obtain ⟨B5, cap5, rfl, hC5, _⟩ := own_C (n := 1) (xs := [1]) (by simpa [ints] using hown5)
        have H5 := Aside0.mk (below_step H3.out hb5)
        have hq5 := pack_plus w5 B5 cap5 [] most each n hn hC5 HN.out HE.out.symm
        rw [show ([] : List Int).length + 1 = 1 from rfl] at hq5
        have HQ := Aside0.mk hq5
        clear hq5
        clear hown5 hgrow5 hnil5 hb5 hC5
        go_upto_region 11 with ((with_reducible refine HQ.out.mono ?_); rintro e6 w6 ⟨A6, n6, k6, rfl, hb6, hk6, hk7⟩; have H6 := Aside0.mk (below_step H5.out hb6); clear hb6)
        have d1 : decide (n < k3) = false := decide_eq_false (by omega)
        have d2 : decide (n < k4) = false := decide_eq_false (by omega)
        have d3 : decide (k6 < n) = false := decide_eq_false (by omega)
        have d4 : decide (n + 1 < k6) = false := decide_eq_false (by omega)
        go_wp2_with fail
        go_meet
        case rel => exact H6
      | some ad =>
        have hC3 := Aside0.mk (Kd.C_below H.out H3.out)
        have HCELL : Aside0 (∀ j u, (ints ms)[j]? = some u → w3.cell? (ad.add j) = some u) := ⟨fun j u hj => by
          have hjl : j < ms.length := by have := (List.getElem?_eq_some_iff.1 hj).1; rwa [ints_length] at this
          obtain ⟨ad', e, g⟩ := Kd.at_int hC3.out (j : Int) (by omega) (by omega)
          cases e
          rw [ints_get ms hjl] at hj
          injection hj with hj
          subst hj
          exact g⟩
        go_upto_region 9 with (at_builtin; refine wpList_append_own _ rfl _ _ 22 rfl w3.heap.size 3 i0 (.int .i64 0) 1 8 Try.underlying22 hi hz0 hz1 hz2 rfl (by decide) _ _ _ rfl (⟨rfl, .inl ⟨rfl, rfl⟩⟩ : w3.ownsRow w3.heap.size 3 1 (.slice none 0 0) 0 []) ad ms.length c (ints ms) rfl (by simp [ints_length]) HCELL.out (by intro u hu; obtain ⟨x, _, rfl⟩ := List.mem_map.1 hu; rfl) (by unfold maxLen; omega) (by omega) (Nat.le_refl _) ?_)
        intro v4 w4 hown hgrow hnil
        have HOWN := Aside0.mk hown
        obtain ⟨B4, cap4, rfl, hC4, hbl4⟩ := own_C hown
        have HB4 := Aside0.mk ((Below.refl w3.heap.size w3).grown hgrow (Nat.le_refl _) (by intro k hk; simp [Value.ownBlock] at hk))
        have HBL4 := Aside0.mk hbl4
        clear hown hgrow hnil hbl4 hC4
        have HONE : Aside0 (∀ j u, ([.int .i64 1] : List Value)[j]? = some u → (w4.alloc (.cells #[.int .i64 1] 3)).cell? ((⟨w4.heap.size, 0, none⟩ : Addr).add j) = some u) := ⟨fun j u hj => by
          have b := (Blk.new w4 [.int .i64 1] 3).at_ hj
          rw [Addr.add_lit, Nat.zero_add]
          exact b⟩
        go_upto_region 10 with (at_builtin; refine wpList_append_own _ rfl _ _ 22 rfl w3.heap.size 3 i0 (.int .i64 0) 1 8 Try.underlying22 hi hz0 hz1 hz2 rfl (by decide) _ _ _ rfl (HOWN.out.alloc _) ⟨w4.heap.size, 0, none⟩ 1 1 [.int .i64 1] rfl rfl HONE.out (by intro u hu; rw [List.mem_singleton.1 hu]; rfl) (by unfold maxLen; omega) (by omega) (by have := HB4.out.size; simp; omega) ?_)
        intro v5 w5 hown5 hgrow5 hnil5
        have hb5 : Below w3.heap.size w3 w5 := (HB4.out.alloc HB4.out.size _).grown hgrow5 (by have := HB4.out.size; simp; omega) (by intro k hk; cases B4 with | none => simp [Value.ownBlock] at hk | some a4 => simp [Value.ownBlock] at hk; have := HBL4.out a4 rfl; omega)
        obtain ⟨B5, cap5, rfl, hC5, _⟩ := own_C (n := ms.length + 1) (xs := ms ++ [1]) (by simpa [ints] using hown5)
        have H5 := Aside0.mk (below_step H3.out hb5)
        have HQ := Aside0.mk (pack_plus w5 B5 cap5 ms most each n hn hC5 HN.out HE.out.symm)
        clear hown5 hgrow5 hnil5 hb5 hC5
        go_upto_region 11 with ((with_reducible refine HQ.out.mono ?_); rintro e6 w6 ⟨A6, n6, k6, rfl, hb6, hk6, hk7⟩; have H6 := Aside0.mk (below_step H5.out hb6); clear hb6)
        have d1 : decide (n < k3) = false := decide_eq_false (by omega)
        have d2 : decide (n < k4) = false := decide_eq_false (by omega)
        have d3 : decide (k6 < n) = false := decide_eq_false (by omega)
        have d4 : decide (n + 1 < k6) = false := decide_eq_false (by omega)
        go_wp2_with fail
        go_meet
        case rel => exact H6
    · have hzb : (e0 == 0) = false := by simpa using hz
      go_wp2_with fail
      go_meet
      case rel => exact HB1
  case rest =>
  obtain ⟨w2, hw2⟩ : ∃ z, z = wc := ⟨_, rfl⟩
  subst hw2
  have HB2 := hcut; clear hcut
  have ha := Aside0.mk alive_any
  clear HB1 HN
  by_cases hw : worksE ms p = 0
  · have hs := share_ok w2 A c ms p (Kd.C_below H.out HB2.out) hw
    have HS := Aside0.mk hs; clear hs
    by_cases hp4 : 4 ≤ p
    · have d1 : decide (4 ≤ p) = true := decide_eq_true hp4
      go_upto_region 14 with ((with_reducible refine HS.out.mono ?_); rintro e3 w3 ⟨B3, cap3, F, l, rfl, hb3, hI3⟩; have H3 := Aside0.mk (below_step HB2.out hb3); clear hb3 hI3)
      go_wp2_with ((with_reducible refine (ha.out _).mono ?_); rintro e8 w8 ⟨rfl, hb8⟩; have H8 := Aside0.mk (below_step H3.out hb8); clear hb8)
      go_ret
      exact ⟨rfl, H8.out⟩
    · have d1 : decide (4 ≤ p) = false := decide_eq_false hp4
      have hp1 := (MOK.of_W hw).2.1
      have HW1 := Aside0.mk (works_more hw (by omega))
      clear hw
      go_upto_region 14 with ((with_reducible refine HS.out.mono ?_); rintro e3 w3 ⟨B3, cap3, F, l, rfl, hb3, hI3⟩; have H3 := Aside0.mk (below_step HB2.out hb3); have HI3 := Aside0.mk hI3; clear hb3 hI3)
      have HS2 := Aside0.mk (share_ok w3 A c ms (p + 1) (Kd.C_below H.out H3.out) HW1.out)
      clear HS
      go_upto_region 17 with ((with_reducible refine HS2.out.mono ?_); rintro e4 w4 ⟨B4, cap4, G, m, rfl, hb4, hI4⟩; have H4 := Aside0.mk (below_step H3.out hb4); have HI4 := Aside0.mk hI4; clear hb4 hI4)
      have hGF : G ≤ F := ease_press HI3.out HI4.out (by omega)
      have d2 : decide (G ≤ F) = true := decide_eq_true hGF
      go_wp2_with ((with_reducible refine (ha.out _).mono ?_); rintro e8 w8 ⟨rfl, hb8⟩; have H8 := Aside0.mk (below_step H4.out hb8); clear hb8)
      go_ret
      exact ⟨rfl, H8.out⟩
  · have hs : Calls Try.prog 23 #[.slice A ms.length c, .int .i64 p] w2 fun e w' => e = .returned (.tuple #[.slice none 0 0, .int .i64 0, .int .i64 (worksE ms p)]) ∧ Below w2.heap.size w2 w' :=
      (share_all w2 A c ms p (Kd.C_below H.out HB2.out)).mono fun e w' ⟨h1, h2⟩ => by rw [if_neg hw] at h2; exact ⟨h2, h1⟩
    obtain ⟨f, hf⟩ : ∃ z, z = worksE ms p := ⟨_, rfl⟩
    rw [← hf] at hs hw
    have g2 : (f == 0) = false := by simpa using hw
    have HS := Aside0.mk hs; clear hs hf
    go_upto_region 14 with ((with_reducible refine HS.out.mono ?_); rintro e3 w3 ⟨rfl, hb3⟩; have H3 := Aside0.mk (below_step HB2.out hb3); clear hb3)
    go_wp2_with ((with_reducible refine (ha.out _).mono ?_); rintro e8 w8 ⟨rfl, hb8⟩; have H8 := Aside0.mk (below_step H3.out hb8); clear hb8)
    go_ret
    exact ⟨rfl, H8.out⟩
theorem eases_any (w : World) (A : Option Addr) (c : Nat) (ms : List Int) (most each p more : Int) (h : (Kd.int .i64).C w A ms.length ms) (hmore : 0 ≤ more ∧ more ≤ 255) (hcap : A = none → c = 0) :
    Calls Try.prog 5 #[.slice A ms.length c, .int .i64 most, .int .i64 each, .int .i64 p, .int .u8 more] w fun e w' => e = .returned (.bool true) ∧ Below w.heap.size w w' := by
  by_cases hn : ms.length ≤ 11
  · exact eases_near w A c ms most each p more h hn hmore hcap
  · exact eases_far w A c _ most each p more (by omega)
end Go.Proofs.Ytnoocdobldchoaa
