/- The reference's checks of fleeces and conditions, its comparison and its order: their walks. -/
import Derived.Test.YthkfahkkcjagdaaC9
import Derived.Test.YthkfahkkcjagdaaC11
import Derived.StillTailTactics
import Derived.BigQuiet
namespace Go.Proofs.Ythkfahkkcjagdaa
open Go.RowKit Go.Proofs.YthkfahkkcjagdaaW.PrintWords Go.Proofs.YthkfahkkcjagdaaW.PrintMore Go.Proofs.YthkfahkkcjagdaaW.PrintLast

theorem errE_of {fs : List Fl} {l least p : Int} {x : Int} (h : errE fs l least p = x) : Ending.returned (.int .i64 x) = .returned (.int .i64 (errE fs l least p)) := by rw [h]
theorem errE_2 {fs : List Fl} {l least p : Int} (h1 : fs.length ≤ 128) (h2 : ¬ (spOK l least p = true ∧ fs.all flOK = true)) : errE fs l least p = 2 := by
  unfold errE
  rw [if_neg (by omega), if_neg h2]
theorem spOK_no {l s p : Int} (h : ¬ (1 ≤ l ∧ l ≤ 16 ∧ 0 ≤ s ∧ s ≤ 1073741824 ∧ 0 ≤ p ∧ p ≤ 10000)) (fs : List Fl) : ¬ (spOK l s p = true ∧ fs.all flOK = true) := by
  rintro ⟨h1, _⟩
  unfold spOK at h1
  rw [decide_eq_true_eq] at h1
  exact h h1
set_option maxHeartbeats 8000000 in
set_option maxRecDepth 100000 in
theorem errors_any (w : World) (A : Option Addr) (n c : Nat) (fs : List Fl) (hn : fs.length = n) (h : kF.C w A n fs) (l s p : Int) :
    Calls Try.prog 64 #[.slice A n c, .agg #[.int .i64 l, .int .i64 s, .int .i64 p]] w fun e w' => e = .returned (.int .i64 (errE fs l s p)) ∧ Below w.heap.size w w' := by
  have hmax := Kd.C_max h
  have b1 := below_alloc (Below.refl w.heap.size w) (.cells #[.int .i64 l, .int .i64 s, .int .i64 p] 24)
  have q1 := Blk.new w [.int .i64 l, .int .i64 s, .int .i64 p] 24
  have s0 := q1.at_ (i := 0) rfl
  have s1 := q1.at_ (i := 1) rfl
  have s2 := q1.at_ (i := 2) rfl
  have HB := Aside0.mk b1
  have HC := Aside0.mk (And.intro hn (Kd.C_below h b1))
  clear b1 q1 h hn
  by_cases h128 : (n : Int) > 128
  · have d0 : decide ((n : Int) > 128) = true := decide_eq_true h128
    go_enter Try.func64, Try.ntmps64
    go_wp2_with fail
    go_ret
    exact ⟨errE_of (by unfold errE; rw [if_pos (by rw [HC.out.1]; omega)]), HB.out⟩
  have d0 : decide ((n : Int) > 128) = false := decide_eq_false h128
  have HN8 : Aside0 (fs.length ≤ 128) := ⟨by rw [HC.out.1]; omega⟩
  by_cases h1 : l < 1
  · have d1 : decide (l < 1) = true := decide_eq_true h1
    go_enter Try.func64, Try.ntmps64
    go_wp2_with fail
    go_ret
    exact ⟨errE_of (errE_2 HN8.out (spOK_no (by omega) fs)), HB.out⟩
  have d1 : decide (l < 1) = false := decide_eq_false h1
  by_cases h2 : l > 16
  · have d2 : decide (l > 16) = true := decide_eq_true h2
    have d2b : decide (16 < l) = true := decide_eq_true h2
    go_enter Try.func64, Try.ntmps64
    go_wp2_with fail
    go_ret
    exact ⟨errE_of (errE_2 HN8.out (spOK_no (by omega) fs)), HB.out⟩
  have d2 : decide (l > 16) = false := decide_eq_false h2
  have d2b : decide (16 < l) = false := decide_eq_false h2
  by_cases h3 : s < 0
  · have d3 : decide (s < 0) = true := decide_eq_true h3
    go_enter Try.func64, Try.ntmps64
    go_wp2_with fail
    go_ret
    exact ⟨errE_of (errE_2 HN8.out (spOK_no (by omega) fs)), HB.out⟩
  have d3 : decide (s < 0) = false := decide_eq_false h3
  by_cases h4 : s > 1073741824
  · have d4 : decide (s > 1073741824) = true := decide_eq_true h4
    have d4b : decide (1073741824 < s) = true := decide_eq_true h4
    go_enter Try.func64, Try.ntmps64
    go_wp2_with fail
    go_ret
    exact ⟨errE_of (errE_2 HN8.out (spOK_no (by omega) fs)), HB.out⟩
  have d4 : decide (s > 1073741824) = false := decide_eq_false h4
  have d4b : decide (1073741824 < s) = false := decide_eq_false h4
  by_cases h5 : p < 0
  · have d5 : decide (p < 0) = true := decide_eq_true h5
    go_enter Try.func64, Try.ntmps64
    go_wp2_with fail
    go_ret
    exact ⟨errE_of (errE_2 HN8.out (spOK_no (by omega) fs)), HB.out⟩
  have d5 : decide (p < 0) = false := decide_eq_false h5
  by_cases h6 : p > 10000
  · have d6 : decide (p > 10000) = true := decide_eq_true h6
    have d6b : decide (10000 < p) = true := decide_eq_true h6
    go_enter Try.func64, Try.ntmps64
    go_wp2_with fail
    go_ret
    exact ⟨errE_of (errE_2 HN8.out (spOK_no (by omega) fs)), HB.out⟩
  have d6 : decide (p > 10000) = false := decide_eq_false h6
  have d6b : decide (10000 < p) = false := decide_eq_false h6
  have HSP : Aside0 (spOK l s p = true) := ⟨decide_eq_true (by omega)⟩
  go_enter Try.func64, Try.ntmps64
  go_upto_region 6 with fail
  clear s0 s1 s2 d0 d1 d2 d2b d3 d4 d4b d5 d6 d6b h128 h1 h2 h3 h4 h5 h6
  have HB1 := Aside0.mk (And.intro HB.out HC.out.2)
  generalize (w.alloc (.cells #[.int .i64 l, .int .i64 s, .int .i64 p] 24)) = w1 at HB1 HC ⊢
  go_loopw [5] (fun v5 wr => ∃ i : Nat, v5 = .int .i64 i ∧ i ≤ n ∧ Aside0 ((fs.take i).all flOK = true) ∧ ∃ q, wr = w1.drewN q) (fun v5 _ => n - (intOf v5).toNat)
  case atStart => exact ⟨0, rfl, by omega, ⟨rfl⟩, 0, rfl⟩
  case round =>
    obtain ⟨i, rfl, hi, HI, q, rfl⟩ := hrel
    by_cases hlt : i < n
    · have hlti : (i : Int) < n := by omega
      have hg := at_F HB1.out.2 (i : Int) (by omega) hlti
      rw [Int.toNat_natCast] at hg
      obtain ⟨ad, e1, g0, g1, g2, g3, g4, g5⟩ := hg
      subst e1
      have htk : fs.take (i + 1) = fs.take i ++ [rdF fs i] := by
        rw [List.take_succ_eq_append_getElem (by rw [HC.out.1]; exact hlt)]
        congr 2
        unfold rdF
        rw [Int.toNat_natCast, List.getD_eq_getElem?_getD, List.getElem?_eq_getElem (by rw [HC.out.1]; exact hlt)]
        rfl
      have HTK := Aside0.mk htk; clear htk g0 g1 g2 g3
      obtain ⟨f, hf⟩ : ∃ z, z = rdF fs i := ⟨_, rfl⟩
      rw [← hf] at g4 g5 HTK
      clear hf
      have hbad : flOK f = false → errE fs l s p = 2 := fun h => errE_2 HN8.out fun h2 => by
        have h3 : f ∈ fs := by
          have : f ∈ fs.take (i + 1) := by rw [HTK.out]; simp
          exact List.mem_of_mem_take this
        have := List.all_eq_true.1 h2.2 f h3
        rw [h] at this
        cases this
      have hok : flOK f = decide (1 ≤ f.mic ∧ f.mic ≤ 10000 ∧ 1 ≤ f.gr ∧ f.gr ≤ 1073741824) := rfl
      have HOK := Aside0.mk (And.intro hbad hok); clear hbad hok
      obtain ⟨x, hx⟩ : ∃ z, z = f.mic := ⟨_, rfl⟩
      obtain ⟨y, hy⟩ : ∃ z, z = f.gr := ⟨_, rfl⟩
      rw [← hx] at g4 HOK
      rw [← hy] at g5 HOK
      clear hx hy
      by_cases c1 : x < 1
      · have d1 : decide (x < 1) = true := decide_eq_true c1
        go_wp2_with fail
        go_ret
        exact ⟨errE_of (HOK.out.1 (by rw [HOK.out.2, decide_eq_false (by omega)])), below_step HB1.out.1 (bdN _ _)⟩
      have d1 : decide (x < 1) = false := decide_eq_false c1
      by_cases c2 : x > 10000
      · have d2 : decide (x > 10000) = true := decide_eq_true c2
        have d2b : decide (10000 < x) = true := decide_eq_true c2
        go_wp2_with fail
        go_ret
        exact ⟨errE_of (HOK.out.1 (by rw [HOK.out.2, decide_eq_false (by omega)])), below_step HB1.out.1 (bdN _ _)⟩
      have d2 : decide (x > 10000) = false := decide_eq_false c2
      have d2b : decide (10000 < x) = false := decide_eq_false c2
      by_cases c3 : y < 1
      · have d3 : decide (y < 1) = true := decide_eq_true c3
        go_wp2_with fail
        go_ret
        exact ⟨errE_of (HOK.out.1 (by rw [HOK.out.2, decide_eq_false (by omega)])), below_step HB1.out.1 (bdN _ _)⟩
      have d3 : decide (y < 1) = false := decide_eq_false c3
      by_cases c4 : y > 1073741824
      · have d4 : decide (y > 1073741824) = true := decide_eq_true c4
        have d4b : decide (1073741824 < y) = true := decide_eq_true c4
        go_wp2_with fail
        go_ret
        exact ⟨errE_of (HOK.out.1 (by rw [HOK.out.2, decide_eq_false (by omega)])), below_step HB1.out.1 (bdN _ _)⟩
      have d4 : decide (y > 1073741824) = false := decide_eq_false c4
      have d4b : decide (1073741824 < y) = false := decide_eq_false c4
      have HNX : Aside0 ((fs.take (i + 1)).all flOK = true) := ⟨by
        rw [HTK.out, List.all_append, HI.out, Bool.true_and, List.all_cons, HOK.out.2, decide_eq_true (by omega)]
        rfl⟩
      clear HI HOK HTK
      go_wp2_with fail
      go_roundw
      case rel => exact ⟨i + 1, by go_num, by omega, HNX, q, rfl⟩
      case measure => simp [intOf]; omega
    · have hlti : ¬ (i : Int) < n := by omega
      go_wp2_with fail
      go_ret
      refine ⟨errE_of ?_, below_step HB1.out.1 (bdN _ _)⟩
      have h1 := HI.out
      rw [List.take_of_length_le (by rw [HC.out.1]; omega)] at h1
      unfold errE
      rw [if_neg (by have := HN8.out; omega), if_pos ⟨HSP.out, h1⟩]

/-! ### The comparison -/
def kb (a : Fl) (i : Nat) : Int := [a.k0, a.k1, a.k2, a.k3].getD i 0
theorem kb_get (a : Fl) {i : Nat} (h : i < 4) : (fcs a)[i]? = some (.int .u8 (kb a i)) := by
  match i, h with
  | 0, _ => rfl
  | 1, _ => rfl
  | 2, _ => rfl
  | 3, _ => rfl
theorem kcmp_at {a b : Fl} {i : Nat} (hi : i < 4) (h : ∀ j, j < i → kb a j = kb b j) (hne : kb a i ≠ kb b i) : kcmp a b = if kb a i < kb b i then -1 else 1 := by
  unfold kcmp
  match i, hi with
  | 0, _ => rw [if_neg (show ¬ a.k0 = b.k0 from hne)]; rfl
  | 1, _ =>
    rw [if_pos (show a.k0 = b.k0 from h 0 (by omega)), if_neg (show ¬ a.k1 = b.k1 from hne)]; rfl
  | 2, _ =>
    rw [if_pos (show a.k0 = b.k0 from h 0 (by omega)), if_pos (show a.k1 = b.k1 from h 1 (by omega)), if_neg (show ¬ a.k2 = b.k2 from hne)]; rfl
  | 3, _ =>
    rw [if_pos (show a.k0 = b.k0 from h 0 (by omega)), if_pos (show a.k1 = b.k1 from h 1 (by omega)), if_pos (show a.k2 = b.k2 from h 2 (by omega)), if_neg (show ¬ a.k3 = b.k3 from hne)]; rfl
theorem kcmp_eq {a b : Fl} (h : ∀ j, j < 4 → kb a j = kb b j) : kcmp a b = 0 := by
  unfold kcmp
  rw [if_pos (show a.k0 = b.k0 from h 0 (by omega)), if_pos (show a.k1 = b.k1 from h 1 (by omega)), if_pos (show a.k2 = b.k2 from h 2 (by omega)), if_pos (show a.k3 = b.k3 from h 3 (by omega))]
set_option maxHeartbeats 8000000 in
set_option maxRecDepth 100000 in
theorem ahead_any (w : World) (a b : Fl) : Calls Try.prog 106 #[.agg (fcs a).toArray, .agg (fcs b).toArray] w fun e w' => e = .returned (.bool (decide (fcmp a b < 0))) ∧ Below w.heap.size w w' := by
  have b1 := below_alloc (below_alloc (Below.refl w.heap.size w) (.cells (fcs a).toArray 44)) (.cells (fcs b).toArray 44)
  have q1 := (Blk.new w (fcs a) 44).alloc (.cells (fcs b).toArray 44)
  have q2 := Blk.new (w.alloc (.cells (fcs a).toArray 44)) (fcs b) 44
  have e1 : (w.alloc (.cells (fcs a).toArray 44)).heap.size = w.heap.size + 1 := by simp
  rw [e1] at q2
  have H1 := Aside0.mk (And.intro b1 (And.intro q1 q2))
  clear b1 q1 q2 e1
  go_enter Try.func106, Try.ntmps106
  go_upto_region 2 with fail
  change Code.wp _ _ _ _ ((w.alloc (.cells (fcs a).toArray 44)).alloc (.cells (fcs b).toArray 44))
  generalize ((w.alloc (.cells (fcs a).toArray 44)).alloc (.cells (fcs b).toArray 44)) = w1 at H1 ⊢
  have HBW : Aside0 (Below w.heap.size w w1) := ⟨H1.out.1⟩
  obtain ⟨p1, hp1⟩ : ∃ z, z = w.heap.size := ⟨_, rfl⟩
  rw [← hp1] at H1 ⊢
  have HP := Aside0.mk hp1; clear hp1
  go_loopw [5] (fun v5 wr => ∃ i : Nat, v5 = .int .i64 i ∧ i ≤ 4 ∧ Aside0 (∀ j, j < i → kb a j = kb b j) ∧ ∃ q, wr = w1.drewN q) (fun v5 _ => 4 - (intOf v5).toNat)
  case atStart => exact ⟨0, rfl, by omega, ⟨fun j hj => by omega⟩, 0, rfl⟩
  case round =>
    obtain ⟨i, rfl, hi, HI, q, rfl⟩ := hrel
    by_cases hlt : i < 4
    · have hlti : (i : Int) < 4 := by omega
      have c1 := H1.out.2.1.at_ (kb_get a hlt)
      have c2 := H1.out.2.2.at_ (kb_get b hlt)
      have HK := Aside0.mk (fun (h : kb a i ≠ kb b i) => kcmp_at hlt HI.out h)
      obtain ⟨x, hx⟩ : ∃ z, z = kb a i := ⟨_, rfl⟩
      obtain ⟨y, hy⟩ : ∃ z, z = kb b i := ⟨_, rfl⟩
      rw [← hx] at c1 HK
      rw [← hy] at c2 HK
      by_cases hxy : x = y
      · have HNX : Aside0 (∀ j, j < i + 1 → kb a j = kb b j) := ⟨fun j hj => by
          rcases (show j < i ∨ j = i by omega) with h | rfl
          · exact HI.out j h
          · rw [← hx, ← hy, hxy]⟩
        have hb : (x != y) = false := by simpa using hxy
        clear hx hy HI HK hxy
        go_upto_region 4 with fail
        go_quiet (fail)
        go_wp2_with fail
        go_roundw
        case rel => exact ⟨i + 1, by go_num, by omega, HNX, _, rfl⟩
        case measure => simp [intOf]; omega
      · have hb : (x != y) = true := by simpa using hxy
        have HV : Aside0 (decide (fcmp a b < 0) = decide (x < y)) := ⟨by
          have h1 := HK.out hxy
          unfold fcmp
          rw [h1]
          by_cases h2 : x < y
          · rw [if_pos h2, if_neg (by decide), decide_eq_true h2]; rfl
          · rw [if_neg h2, if_neg (by decide), decide_eq_false h2]; rfl⟩
        clear hx hy HI HK hxy
        go_upto_region 4 with fail
        go_quiet (fail)
        go_upto_region 5 with fail
        go_quiet (fail)
        go_wp2_with fail
        go_ret
        exact ⟨ret_bool HV.out.symm, below_step HBW.out (below_step (bdN _ _) (below_step (bdN _ _) (bdN _ _)))⟩
    · have hlti : ¬ (i : Int) < 4 := by omega
      have c1 := H1.out.2.1.at_ (i := 4) (v := .int .i64 a.mic) rfl
      have c2 := H1.out.2.2.at_ (i := 4) (v := .int .i64 b.mic) rfl
      have HV : Aside0 (decide (fcmp a b < 0) = decide (a.mic < b.mic)) := ⟨by
        have h1 := kcmp_eq (a := a) (b := b) fun j hj => HI.out j (by omega)
        unfold fcmp cmpI
        rw [h1, if_pos rfl]
        by_cases h2 : a.mic < b.mic
        · rw [if_pos h2, decide_eq_true h2]; rfl
        · rw [if_neg h2, decide_eq_false h2]
          split <;> rfl⟩
      clear HI
      obtain ⟨x, hx⟩ : ∃ z, z = a.mic := ⟨_, rfl⟩
      obtain ⟨y, hy⟩ : ∃ z, z = b.mic := ⟨_, rfl⟩
      rw [← hx] at c1 HV
      rw [← hy] at c2 HV
      clear hx hy
      go_wp2_with fail
      go_ret
      exact ⟨ret_bool HV.out.symm, below_step HBW.out (bdN _ _)⟩
end Go.Proofs.Ythkfahkkcjagdaa
