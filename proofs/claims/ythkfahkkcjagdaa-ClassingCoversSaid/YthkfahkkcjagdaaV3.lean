/- Is it a line, of fleeces that were not seen yet: the walk of the law's own function. -/
import Derived.Test.YthkfahkkcjagdaaV2
import Derived.Deep.RegionHeld3
import Derived.IntWalk
namespace Go.Proofs.Ythkfahkkcjagdaa
open Go.RowKit Go.Proofs.YthkfahkkcjagdaaW.PrintWords Go.Proofs.YthkfahkkcjagdaaW.PrintMore Go.Proofs.YthkfahkkcjagdaaW.PrintLast
attribute [local go_sem] max2_int min2_int

/-- Which fleeces stand among the first m of the order. -/
def seenL (ord : List Int) (m n : Nat) : List Bool := (List.range n).map fun (i : Nat) => decide ((i : Int) ∈ ord.take m)
def bools (bs : List Bool) : List Value := bs.map .bool
theorem seen_get {ord : List Int} {m n i : Nat} (h : i < n) : (bools (seenL ord m n))[i]? = some (.bool (decide ((i : Int) ∈ ord.take m))) := by
  simp [bools, seenL, h]
theorem seen_set {ord : List Int} {m n : Nat} (hm : m < ord.length) (hx : 0 ≤ ord.getD m 0 ∧ ord.getD m 0 < n) : (bools (seenL ord m n)).set (ord.getD m 0).toNat (.bool true) = bools (seenL ord (m + 1) n) := by
  apply List.ext_getElem?
  intro i
  rw [List.getElem?_set]
  have hl : (bools (seenL ord m n)).length = n := by simp [bools, seenL]
  by_cases hi : i < n
  · have r1 := seen_get (ord := ord) (m := m) hi
    have r2 := seen_get (ord := ord) (m := m + 1) hi
    rw [r1, r2, hl]
    have ht : ord.take (m + 1) = ord.take m ++ [ord.getD m 0] := by
      rw [List.take_succ_eq_append_getElem hm, List.getD_eq_getElem?_getD, List.getElem?_eq_getElem hm]; rfl
    have e : decide ((i : Int) ∈ ord.take (m + 1)) = (decide ((i : Int) ∈ ord.take m) || decide ((i : Int) = ord.getD m 0)) := by
      rw [ht, Bool.eq_iff_iff]; simp [List.mem_append]
    by_cases h1 : (ord.getD m 0).toNat = i
    · rw [if_pos h1, if_pos (by omega), e, decide_eq_true (show (i : Int) = ord.getD m 0 by omega), Bool.or_true]
    · rw [if_neg h1, e, decide_eq_false (show ¬ (i : Int) = ord.getD m 0 by omega), Bool.or_false]
  · have h1 : (bools (seenL ord (m + 1) n))[i]? = none := List.getElem?_eq_none (by simp [bools, seenL]; omega)
    have h2 : (bools (seenL ord m n))[i]? = none := List.getElem?_eq_none (by omega)
    rw [h1, h2, if_neg (by omega)]
theorem upto_nodup (n : Nat) : (upto n).Nodup := by
  unfold upto
  exact List.Pairwise.map _ (fun a b h => by intro e; exact h (by omega)) List.nodup_range
theorem ordF_nodup (fs : List Fl) : (ordF fs).Nodup := (ordF_perm fs).nodup_iff.2 (upto_nodup _)
theorem seen_not {ord : List Int} (hn : ord.Nodup) {m : Nat} (hm : m < ord.length) : ord.getD m 0 ∉ ord.take m := by
  intro h
  rw [List.getD_eq_getElem?_getD, List.getElem?_eq_getElem hm] at h
  obtain ⟨j, hj, e⟩ := List.getElem_of_mem h
  rw [List.length_take] at hj
  rw [List.getElem_take] at e
  exact (List.pairwise_iff_getElem.1 hn) j m (by omega) hm (by omega) e
theorem run_get (ord : List Int) {i d e : Nat} (he : e < d) : rd ((ord.drop i).take d) e = ord.getD (i + e) 0 := by
  unfold rd
  rw [Int.toNat_natCast, List.getD_eq_getElem?_getD, List.getD_eq_getElem?_getD, List.getElem?_take, if_pos he, List.getElem?_drop]

set_option maxHeartbeats 16000000 in
set_option maxRecDepth 100000 in
theorem holds_any (w : World) (A : Option Addr) (n c : Nat) (fs : List Fl) (hn : fs.length = n) (h : kF.C w A n fs) (hk : KOK fs) (ha : fs.all flOK = true) (hn128 : n ≤ 128) (l least p : Int) (i d g cap gs : Nat)
    (hd : 1 ≤ d) (hid : i + d ≤ n) (hok : okR (sF fs (ordF fs)) p i d = true) (hls : least ≤ massD (sF fs (ordF fs)) i d) (hr : (Kd.int .i64).C w (some ⟨g, 0, none⟩) d (((ordF fs).drop i).take d))
    (hs : Blk w gs (bools (seenL (ordF fs) i n)) 4) (hgA : ∀ ad, A = some ad → ad.block ≠ gs) (hgg : g ≠ gs) (ce co : Int) (hce : 0 ≤ ce ∧ ce ≤ 20000) (hco : co = costD (sF fs (ordF fs)) i ce d) :
    Calls Try.prog 20 #[.slice A n c, .agg #[.int .u8 (sF fs (ordF fs) i).k0, .int .u8 (sF fs (ordF fs) i).k1, .int .u8 (sF fs (ordF fs) i).k2, .int .u8 (sF fs (ordF fs) i).k3, .slice (some ⟨g, 0, none⟩) d cap, .int .i64 (massD (sF fs (ordF fs)) i d), .int .i64 ce, .int .i64 co], .agg #[.int .i64 l, .int .i64 least, .int .i64 p], .slice (some ⟨gs, 0, none⟩) n n] w
      fun e w' => e = .returned (.bool true) ∧ Kp (fun k => k = gs) w w' ∧ Blk w' gs (bools (seenL (ordF fs) (i + d) n)) 4 := by
  have hso := ordF_SOK ha
  have hsrt := ordF_sorted hk
  rw [hn] at hso hsrt
  have hol : (ordF fs).length = n := by rw [ordF_length, hn]
  have hom : ∀ x ∈ ordF fs, 0 ≤ x ∧ x < n := fun x hx => by have := ordF_mem hx; omega
  have hnd := ordF_nodup fs
  obtain ⟨ord, hord⟩ : ∃ z, z = ordF fs := ⟨_, rfl⟩
  rw [← hord] at hso hsrt hol hom hnd hok hls hr hs hco ⊢
  clear hord
  have hq : ∀ e, e < d → 0 ≤ ord.getD (i + e) 0 ∧ ord.getD (i + e) 0 < n := fun e he => hom _ (getD_mem (by omega))
  have hsk : ∀ e, e < d → sameK (sF fs ord i) (sF fs ord (i + e)) = true ∧ (sF fs ord (i + e)).mic - (sF fs ord i).mic ≤ p := fun e he => okR_at hok he
  have hmo : ∀ a b, a ≤ b → b < d → (sF fs ord (i + a)).mic ≤ (sF fs ord (i + b)).mic := fun a b hab hb => run_mono hsrt hid hok hab hb
  have hmd : ∀ e, e ≤ d → 0 ≤ massD (sF fs ord) i e ∧ massD (sF fs ord) i e ≤ 137438953472 := fun e he => by have := massD_bd hso i e (by omega); omega
  have hse : ∀ e, sF fs ord (i + e) = rdF fs (ord.getD (i + e) 0) := fun e => rfl
  have hmass : ∀ e, massD (sF fs ord) i (e + 1) = massD (sF fs ord) i e + (sF fs ord (i + e)).gr := fun e => rfl
  have hcos : costD (fun k => rdF fs (rd ((ord.drop i).take d) k)) 0 ce d = co := by
    rw [hco]
    exact costD_congr d fun k hk => by
      rw [Nat.zero_add, run_get ord hk]; rfl
  obtain ⟨xs, hxs⟩ : ∃ z, z = (ord.drop i).take d := ⟨_, rfl⟩
  have hrx : ∀ e : Nat, e < d → rd xs e = ord.getD (i + e) 0 := fun e he => by rw [hxs]; exact run_get ord he
  have hxm : ∀ z ∈ xs, 0 ≤ z ∧ z < n := fun z hz => by rw [hxs] at hz; exact hom z (List.mem_of_mem_drop (List.mem_of_mem_take hz))
  rw [← hxs] at hr hcos
  have hseen : ∀ e, e < d → decide ((((ord.getD (i + e) 0).toNat : Nat) : Int) ∈ ord.take (i + e)) = false := fun e he => by
    rw [Int.toNat_of_nonneg (hq e he).1]
    exact decide_eq_false (seen_not hnd (by omega))
  have hset : ∀ e, e < d → (bools (seenL ord (i + e) n)).set (ord.getD (i + e) 0).toNat (.bool true) = bools (seenL ord (i + e + 1) n) := fun e he => seen_set (by omega) (hq e he)
  have HP := Aside0.mk (And.intro hso (And.intro hq (And.intro hsk (And.intro hmo (And.intro hmd (And.intro hse hmass))))))
  have HX := Aside0.mk (And.intro hcos (And.intro hrx (And.intro hxm (And.intro hseen hset))))
  have HC := Aside0.mk (And.intro h (And.intro hr (And.intro hgA (And.intro hgg (And.intro ha hn)))))
  clear hso hsrt hol hom hnd hok hq hsk hmo hmd hse hmass hcos hrx hxm hseen hset hxs h hr hgA hgg hn hk ha hco
  obtain ⟨M, hM⟩ : ∃ z, z = massD (sF fs ord) i d := ⟨_, rfl⟩
  rw [← hM] at hls ⊢
  have HM := Aside0.mk hM; clear hM
  have hf0 : ∃ f0, f0 = sF fs ord i := ⟨_, rfl⟩
  obtain ⟨f0, hf0⟩ := hf0
  rw [← hf0]
  obtain ⟨k0, k1, k2, k3, m0, r0⟩ := f0
  have HF0 := Aside0.mk hf0; clear hf0
  dsimp only
  obtain ⟨hce0, hce1⟩ := hce
  have b1 := below_alloc (Below.refl w.heap.size w) (.cells #[.int .u8 k0, .int .u8 k1, .int .u8 k2, .int .u8 k3, .slice (some ⟨g, 0, none⟩) d cap, .int .i64 M, .int .i64 ce, .int .i64 co] 37)
  have b2 := below_alloc b1 (.cells #[.int .i64 l, .int .i64 least, .int .i64 p] 24)
  have q1 := (Blk.new w [.int .u8 k0, .int .u8 k1, .int .u8 k2, .int .u8 k3, .slice (some ⟨g, 0, none⟩) d cap, .int .i64 M, .int .i64 ce, .int .i64 co] 37).alloc (.cells #[.int .i64 l, .int .i64 least, .int .i64 p] 24)
  have q2 := Blk.new (w.alloc (.cells #[.int .u8 k0, .int .u8 k1, .int .u8 k2, .int .u8 k3, .slice (some ⟨g, 0, none⟩) d cap, .int .i64 M, .int .i64 ce, .int .i64 co] 37)) [.int .i64 l, .int .i64 least, .int .i64 p] 24
  have es : (w.alloc (.cells #[.int .u8 k0, .int .u8 k1, .int .u8 k2, .int .u8 k3, .slice (some ⟨g, 0, none⟩) d cap, .int .i64 M, .int .i64 ce, .int .i64 co] 37)).heap.size = w.heap.size + 1 := by simp
  rw [es] at q2
  have hgl := hs.lt
  have H2 := Aside0.mk (And.intro b2 (And.intro q1 (And.intro q2 (hs.below b2))))
  clear b1 b2 q1 q2 es hs
  go_enter Try.func20, Try.ntmps20
  go_upto_region 2 with fail
  generalize ((w.alloc (.cells #[.int .u8 k0, .int .u8 k1, .int .u8 k2, .int .u8 k3, .slice (some ⟨g, 0, none⟩) d cap, .int .i64 M, .int .i64 ce, .int .i64 co] 37)).alloc (.cells #[.int .i64 l, .int .i64 least, .int .i64 p] 24)) = w1 at H2 ⊢
  obtain ⟨b5, hb5⟩ : ∃ z, z = w.heap.size := ⟨_, rfl⟩
  rw [← hb5] at H2 ⊢
  have HB5 := Aside0.mk hb5; clear hb5
  have hb5g : gs < b5 := by rw [HB5.out]; exact hgl
  clear hgl
  go_wp2_with fail
  go_loopw [9, 10, 11, 12] (fun v9 v10 v11 v12 wr => ∃ (e : Nat) (a lo hi : Int), v12 = .int .i64 e ∧ v9 = .int .i64 a ∧ v10 = .int .i64 lo ∧ v11 = .int .i64 hi ∧ e ≤ d ∧ (0 ≤ a ∧ a ≤ 137438953472) ∧ (0 ≤ lo ∧ lo ≤ 10000) ∧ (0 ≤ hi ∧ hi ≤ 10000) ∧ Aside0 (a = massD (sF fs ord) i e ∧ (e = 0 → hi = 0) ∧ (0 < e → lo = m0 ∧ hi = (sF fs ord (i + (e - 1))).mic)) ∧ Aside0 (Kp (fun k => k = gs) w wr ∧ Blk wr gs (bools (seenL ord (i + e) n)) 4 ∧ Blk wr b5 [.int .u8 k0, .int .u8 k1, .int .u8 k2, .int .u8 k3, .slice (some ⟨g, 0, none⟩) d cap, .int .i64 M, .int .i64 ce, .int .i64 co] 37 ∧ Blk wr (b5 + 1) [.int .i64 l, .int .i64 least, .int .i64 p] 24)) (fun _ _ _ v12 _ => d - (intOf v12).toNat)
  case atStart => exact ⟨0, 0, 0, 0, rfl, rfl, rfl, rfl, by omega, by omega, by omega, by omega, ⟨rfl, fun _ => rfl, fun h => absurd h (by decide)⟩, ⟨by have := H2.out.1; rw [HB5.out] at this; exact Kp.of_below this, H2.out.2.2.2, H2.out.2.1, H2.out.2.2.1⟩⟩
  case round =>
    obtain ⟨e, a, lo, hi, rfl, rfl, rfl, rfl, he, ⟨ha0, ha1⟩, ⟨lo0, lo1⟩, ⟨hi0, hi1⟩, HA, HW⟩ := hrel
    have s4 := HW.out.2.2.1.at_ (i := 4) rfl
    by_cases hlt : e < d
    · obtain ⟨hq0, hq1⟩ := HP.out.2.1 e hlt
      have hrd := HX.out.2.1 e hlt
      obtain ⟨q, hqq⟩ : ∃ q, q = ord.getD (i + e) 0 := ⟨_, rfl⟩
      have hsk := HP.out.2.2.1 e hlt
      have hss := HP.out.1 (i + e) (by omega)
      have hmo0 := HP.out.2.2.2.1 0 e (Nat.zero_le _) hlt
      have hmo1 : 0 < e → (sF fs ord (i + (e - 1))).mic ≤ (sF fs ord (i + e)).mic := fun h => HP.out.2.2.2.1 (e - 1) e (by omega) hlt
      have hma := HP.out.2.2.2.2.2.2 e
      have hmb := HP.out.2.2.2.2.1 (e + 1) (by omega)
      have hse := HP.out.2.2.2.2.2.1 e
      have hsn := HX.out.2.2.2.1 e hlt
      have hst := HX.out.2.2.2.2 e hlt
      rw [← hqq] at hq0 hq1 hrd hse hsn hst
      rw [Nat.add_zero, ← HF0.out] at hmo0
      rw [← HF0.out] at hsk
      obtain ⟨f, hf⟩ : ∃ f, f = sF fs ord (i + e) := ⟨_, rfl⟩
      rw [← hf] at hsk hss hmo0 hmo1 hma hse
      have hkk : f.k0 = k0 ∧ f.k1 = k1 ∧ f.k2 = k2 ∧ f.k3 = k3 := by
        have := hsk.1
        unfold sameK at this
        rw [decide_eq_true_eq] at this
        dsimp only at this
        omega
      obtain ⟨x0, x1, x2, x3, x4, x5⟩ := f
      dsimp only at hkk hss hmo0 hmo1 hma
      obtain ⟨rfl, rfl, rfl, rfl⟩ := hkk
      obtain ⟨⟨hm1, hm2⟩, hg1, hg2⟩ := hss
      have hCF : kF.C wr A n fs := CF_kp HC.out.1 HW.out.1 (fun hp ad e => ⟨CF_lt HC.out.1 hp ad e, HC.out.2.2.1 ad e⟩)
      obtain ⟨ad, e1, g0, g1, g2, g3, g4, g5⟩ := at_F hCF q hq0 hq1
      have hga := HC.out.2.2.1 ad e1
      subst e1
      rw [← hse] at g0 g1 g2 g3 g4 g5
      dsimp only at g0 g1 g2 g3 g4 g5
      obtain ⟨aB, eB, gx⟩ := Kd.at_int (C_kp HC.out.2.1 HW.out.1 (fun hp ad e => ⟨C_lt HC.out.2.1 hp ad e, by cases e; exact HC.out.2.2.2.1⟩)) (e : Int) (by omega) (by omega)
      cases eB
      rw [hrd, add_plain] at gx
      have gx2 : wr.cell? ⟨g, e, none⟩ = some (.int .i64 q) := by simpa using gx
      clear gx
      have s0 := HW.out.2.2.1.at_ (i := 0) rfl
      have s1 := HW.out.2.2.1.at_ (i := 1) rfl
      have s2 := HW.out.2.2.1.at_ (i := 2) rfl
      have s3 := HW.out.2.2.1.at_ (i := 3) rfl
      have c0 := HW.out.2.1.at_ (seen_get (ord := ord) (m := i + e) (show q.toNat < n by omega))
      rw [hsn] at c0
      have cf := HW.out.2.1.free
      have hmm : a + x5 = massD (sF fs ord) i (e + 1) := by rw [hma, HA.out.1]
      have hab : a + x5 ≤ 137438953472 := by rw [hmm]; exact hmb.2
      have HAN : Aside0 (a + x5 = massD (sF fs ord) i (e + 1) ∧ (∀ z, z = x4 → z = (sF fs ord (i + (e + 1 - 1))).mic)) := ⟨hmm, fun z hz => by rw [hz, show e + 1 - 1 = e by omega, ← hf]⟩
      have HST := Aside0.mk hst
      have hx40 : e = 0 → x4 = m0 := fun h0 => by
        subst h0
        have h1 := hf.trans (show sF fs ord (i + 0) = _ from HF0.out.symm)
        exact congrArg Fl.mic h1
      have HX4 := Aside0.mk (And.intro hx40 hse); clear hx40
      have HMO := Aside0.mk (And.intro hmo0 hmo1)
      clear hsk hmo0 hmo1 hma hmb hse hsn hst hf hqq hrd hmm hCF
      have ke : ∀ W, (Op.equalIn 10000 34 (.agg #[.int .u8 x0, .int .u8 x1, .int .u8 x2, .int .u8 x3]) (.agg #[.int .u8 x0, .int .u8 x1, .int .u8 x2, .int .u8 x3])).run Try.prog W = .ok true W := fun W => by rw [kind_eql, decide_eq_true ⟨rfl, rfl, rfl, rfl⟩]
      go_upto_region 6 with fail
      go_quiet (fail)
      go_upto_region 9 with fail
      have W1 := (HW.out.1.drewN nq).setCell (p := ⟨gs, q.toNat, none⟩) (fun _ => rfl) (.bool true)
      have W2 := (HW.out.2.1.drewN nq).set q.toNat (.bool true)
      have W3 := (HW.out.2.2.1.drewN nq).far (p := ⟨gs, q.toNat, none⟩) (by show b5 ≠ gs; omega) (.bool true)
      have W4 := (HW.out.2.2.2.drewN nq).far (p := ⟨gs, q.toNat, none⟩) (by show b5 + 1 ≠ gs; omega) (.bool true)
      rw [HST.out] at W2
      generalize ((wr.drewN nq).setCell ⟨gs, q.toNat, none⟩ (.bool true)) = w9 at W1 W2 W3 W4 ⊢
      have hCF9 : kF.C w9 (some ad) n fs := CF_kp HC.out.1 W1 (fun hp ad e => ⟨CF_lt HC.out.1 hp ad e, HC.out.2.2.1 ad e⟩)
      obtain ⟨ad2, e2, _, _, _, _, g24, g25⟩ := at_F hCF9 q hq0 hq1
      cases e2
      rw [← HX4.out.2] at g24 g25
      dsimp only at g24 g25
      have H9 := Aside0.mk (And.intro W1 (And.intro W2 (And.intro W3 W4)))
      clear W1 W2 W3 W4 hCF9 g0 g1 g2 g3 g4 g5 gx2 s0 s1 s2 s3 s4 c0 cf ke hga
      have hhx : hi ≤ x4 := by
        rcases Nat.eq_zero_or_pos e with h0 | h0
        · have := HA.out.2.1 h0; omega
        · have := (HA.out.2.2 h0).2; have := HMO.out.2 h0; omega
      have hmx : max hi x4 = x4 := by omega
      have HMX := Aside0.mk hmx; clear hmx
      by_cases h0 : e = 0
      · have HL0 := Aside0.mk (HX4.out.1 h0)
        subst h0
        go_wp2_with fail
        go_roundw
        case rel => exact ⟨1, a + x5, x4, max hi x4, by go_num, by go_num, by go_num, by go_num, by omega, by omega, by omega, by omega, ⟨HAN.out.1, fun h => absurd h (by decide), fun _ => ⟨HL0.out, HAN.out.2 _ HMX.out⟩⟩, ⟨H9.out.1, H9.out.2.1, H9.out.2.2.1, H9.out.2.2.2⟩⟩
        case measure => simp [intOf]; omega
      · have hlo : ¬ x4 < lo := by have h1 := (HA.out.2.2 (by omega)).1; have h2 := HMO.out.1; omega
        have hz : ((e : Int) == 0) = false := by simpa using h0
        go_wp2_with fail
        go_roundw
        case rel => exact ⟨e + 1, a + x5, lo, max hi x4, by go_num, by go_num, by go_num, by go_num, by omega, by omega, by omega, by omega, ⟨HAN.out.1, fun h => absurd h (by omega), fun _ => ⟨(HA.out.2.2 (by omega)).1, HAN.out.2 _ HMX.out⟩⟩, ⟨H9.out.1, H9.out.2.1, H9.out.2.2.1, H9.out.2.2.2⟩⟩
        case measure => simp [intOf]; omega
    · have hed : e = d := by omega
      have hla := HA.out.2.2 (by omega)
      have haM : M = a := by rw [HA.out.1, hed, HM.out]
      have hlp : hi - lo ≤ p := by
        have h1 := (HP.out.2.2.1 (d - 1) (by omega)).2
        rw [hla.1, hla.2, hed]
        rw [← HF0.out] at h1
        exact h1
      have hw1 : Kp (fun k => k = gs) w wr := HW.out.1
      have hw2 : Blk wr gs (bools (seenL ord (i + d) n)) 4 := by have := HW.out.2.1; rwa [hed] at this
      have hw3 := HW.out.2.2.1
      have hw4 := HW.out.2.2.2
      have hsp := fun (W : World) (hW : Below wr.heap.size wr W) => spent_any W A (some ⟨g, 0, none⟩) n c d cap fs xs ce k0 k1 k2 k3 M ce co (Kd.C_below (CF_kp HC.out.1 hw1 (fun hp ad e => ⟨CF_lt HC.out.1 hp ad e, HC.out.2.2.1 ad e⟩)) hW) (Kd.C_below (C_kp HC.out.2.1 hw1 (fun hp ad e => ⟨C_lt HC.out.2.1 hp ad e, by cases e; exact HC.out.2.2.2.1⟩)) hW) HX.out.2.2.1 HC.out.2.2.2.2.1 HC.out.2.2.2.2.2 (by omega) ⟨hce0, hce1⟩
      rw [HX.out.1] at hsp
      have HSP := Aside0.mk hsp; clear hsp
      have hS0 : ∀ W, Below wr.heap.size wr W → Aside0 (Below wr.heap.size wr W) ∧ W.cell? ⟨b5, 0, none⟩ = some (.int .u8 k0) ∧ W.cell? ⟨b5, 1, none⟩ = some (.int .u8 k1) ∧ W.cell? ⟨b5, 2, none⟩ = some (.int .u8 k2) ∧ W.cell? ⟨b5, 3, none⟩ = some (.int .u8 k3) ∧ W.cell? ⟨b5, 4, none⟩ = some (.slice (some ⟨g, 0, none⟩) d cap) ∧ W.cell? ⟨b5, 5, none⟩ = some (.int .i64 M) ∧ W.cell? ⟨b5, 6, none⟩ = some (.int .i64 ce) ∧ W.cell? ⟨b5, 7, none⟩ = some (.int .i64 co) ∧ W.cell? ⟨b5 + 1, 1, none⟩ = some (.int .i64 least) ∧ W.cell? ⟨b5 + 1, 2, none⟩ = some (.int .i64 p) := fun W hW => ⟨⟨hW⟩, (hw3.below hW).at_ (i := 0) rfl, (hw3.below hW).at_ (i := 1) rfl, (hw3.below hW).at_ (i := 2) rfl, (hw3.below hW).at_ (i := 3) rfl, (hw3.below hW).at_ (i := 4) rfl, (hw3.below hW).at_ (i := 5) rfl, (hw3.below hW).at_ (i := 6) rfl, (hw3.below hW).at_ (i := 7) rfl, (hw4.below hW).at_ (i := 1) rfl, (hw4.below hW).at_ (i := 2) rfl⟩
      have HS0 := Aside0.mk hS0; clear hS0
      have HE := Aside0.mk (And.intro hw1 hw2)
      clear hed hla hw1 hw2 hw3 hw4 HA HW
      subst haM
      have hd0 : 0 < d := by omega
      have hd1 : decide (0 < d) = true := decide_eq_true hd0
      have hlb : decide (least ≤ M) = true := decide_eq_true hls
      have hlq : decide (hi - lo ≤ p) = true := decide_eq_true hlp
      have hwr : IntKind.i64.wrap (hi - lo) = hi - lo := IntWalk.i64_in _ (by omega)
      go_upto_region 13 with fail
      go_region_held3 (fun W => Aside0 (Below wr.heap.size wr W) ∧ W.cell? ⟨b5, 0, none⟩ = some (.int .u8 k0) ∧ W.cell? ⟨b5, 1, none⟩ = some (.int .u8 k1) ∧ W.cell? ⟨b5, 2, none⟩ = some (.int .u8 k2) ∧ W.cell? ⟨b5, 3, none⟩ = some (.int .u8 k3) ∧ W.cell? ⟨b5, 4, none⟩ = some (.slice (some ⟨g, 0, none⟩) d cap) ∧ W.cell? ⟨b5, 5, none⟩ = some (.int .i64 M) ∧ W.cell? ⟨b5, 6, none⟩ = some (.int .i64 ce) ∧ W.cell? ⟨b5, 7, none⟩ = some (.int .i64 co) ∧ W.cell? ⟨b5 + 1, 1, none⟩ = some (.int .i64 least) ∧ W.cell? ⟨b5 + 1, 2, none⟩ = some (.int .i64 p))
        ((refine HS0.out _ ?_; with_reducible (first
          | exact below_drew (Below.refl _ _)
          | exact HB7.out)))
        (((with_reducible refine (HSP.out _ (hb_of (by assumption))).mono ?_); rintro e7 w7 ⟨rfl, hb7⟩; have HB7 := Aside0.mk (below_step (hb_of (by assumption)) hb7); clear hb7))
      all_goals go_wp2_with fail
      all_goals go_ret
      all_goals exact ⟨rfl, HE.out.1.then_below HB7.out, HE.out.2.below HB7.out⟩
end Go.Proofs.Ythkfahkkcjagdaa
