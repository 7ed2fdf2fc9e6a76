/- One round of the search for an assignment to presses, and the whole search. -/
import Derived.Test.YtnoocdobldchoaaD1
import Derived.Test.YtnoocdobldchoaaB2
namespace Go.Proofs.Ytnoocdobldchoaa
open Go.RowKit Go.Proofs.YtnoocdobldchoaaW.PrintWords Go.Proofs.YtnoocdobldchoaaW.PrintMore Go.Proofs.YtnoocdobldchoaaW.PrintLast

/-! ### One round of the search for an assignment to presses, and the whole search. -/
theorem shL_step {σ : Type} (F : Nat → σ → σ) (brk : Nat → Bool) (P p : Nat) (s : σ) (h : p < P) : shL F brk (P - p) p s = if brk p = true then F p s else shL F brk (P - (p + 1)) (p + 1) (F p s) := by
  rw [show P - p = (P - (p + 1)) + 1 by omega, shL]
/-- What holds between two presses. -/
structure SI (N bl bt bg bb bp bd bs g : Nat) (A : Option Addr) (c : Nat) (ts : List Int) (P : Nat) (st : List Int × Int) (ld : Nat → Int) (gv : List Int) (i : Nat) (w0 w : World) : Prop where
  k : Kp (SF bl bb bd g) w0 w
  h : ∃ gv1, SHx N bl bt bg bb bp bd bs g A c ts P st ld gv1 w ∧ gv1.take i = gv.take i

set_option maxRecDepth 100000 in
set_option maxHeartbeats 4000000 in
theorem sh_round {N bl bt bg bb bp bd bs g : Nat} {A : Option Addr} {c : Nat} {ts : List Int} {P : Nat} {B : Option Addr} {n cap : Nat} {st : List Int × Int} {ld : Nat → Int} {gv : List Int} {w : World}
    (h : SH N bl bt bg bb bp bd bs g A c ts P B n cap st ld gv w) (hN : N ≤ w.heap.size) (i fin : Int) (hf : ¬ st.2 ≤ fin) (hi0 : 0 ≤ i) (hn : i < ts.length) (hlen : ts.length ≤ 12) (hP : P ≤ 4) (hf0 : 0 ≤ fin) (hf1 : fin ≤ i * 1073741824)
    (hld : ∀ p, 0 ≤ ld p ∧ ld p ≤ i * 1073741824) (ht : 0 ≤ rd ts i ∧ rd ts i ≤ 1073741824) (rest : List Int)
    (ih : ∀ (fin : Int) (w : World) (st : List Int × Int) (B : Option Addr) (n cap : Nat) (ld : Nat → Int) (gv : List Int), SH N bl bt bg bb bp bd bs g A c ts P B n cap st ld gv w → N ≤ w.heap.size → 0 ≤ fin → fin ≤ (i + 1) * 1073741824 → (∀ p, 0 ≤ ld p ∧ ld p ≤ (i + 1) * 1073741824) →
      Calls Try.prog 48 #[.int .i64 (i + 1), .int .i64 fin, .pointer (some ⟨bl, 0, none⟩), .pointer (some ⟨bt, 0, none⟩), .pointer (some ⟨bg, 0, none⟩), .pointer (some ⟨bb, 0, none⟩), .pointer (some ⟨bp, 0, none⟩), .pointer (some ⟨bd, 0, none⟩), .pointer (some ⟨bs, 0, none⟩)] w
        fun e w' => e = .returned (.tuple #[]) ∧ SPost N bl bt bg bb bp bd bs g A c ts P (shF P rest fin ld (gv.take (i + 1).toNat) st) ld gv (i + 1).toNat w w') :
    Calls Try.prog 48 #[.int .i64 i, .int .i64 fin, .pointer (some ⟨bl, 0, none⟩), .pointer (some ⟨bt, 0, none⟩), .pointer (some ⟨bg, 0, none⟩), .pointer (some ⟨bb, 0, none⟩), .pointer (some ⟨bp, 0, none⟩), .pointer (some ⟨bd, 0, none⟩), .pointer (some ⟨bs, 0, none⟩)] w
      fun e w' => e = .returned (.tuple #[]) ∧ SPost N bl bt bg bb bp bd bs g A c ts P (shF P (rd ts i :: rest) fin ld (gv.take i.toNat) st) ld gv i.toNat w w' := by
  have hie : (i == (ts.length : Int)) = false := by simp; omega
  have f1 := h.l.at_ (i := 0) rfl
  have f2 := h.t.at_ (i := 0) rfl
  have f3 := h.p.at_ (i := 0) rfl
  have d1 : decide (st.2 ≤ fin) = false := decide_eq_false hf
  obtain ⟨t, htt⟩ : ∃ z, z = rd ts i := ⟨_, rfl⟩
  rw [← htt] at ht ⊢
  obtain ⟨ht0, ht1⟩ := ht
  obtain ⟨F, hF⟩ : ∃ z, z = (fun (p : Nat) (s : List Int × Int) => shF P rest (max fin (ld p + t)) (upd ld p t) (gv.take i.toNat ++ [(p : Int)]) s) := ⟨_, rfl⟩
  have hs : shF P (t :: rest) fin ld (gv.take i.toNat) st = shL F (fun p => ld p == 0) P 0 st := by
    rw [shF, if_neg hf, hF]
  rw [hs]
  have HF := Aside0.mk hF; clear hF hs
  have H := Aside0.mk h; clear h
  have HLD := Aside0.mk hld; clear hld
  have IH := Aside0.mk ih; clear ih
  have HT := Aside0.mk htt; clear htt
  have HNN := Aside0.mk hN; clear hN
  obtain ⟨M, hM⟩ : ∃ z, z = i * 1073741824 := ⟨_, rfl⟩
  have hM0 : 0 ≤ M := by omega
  have hM1 : M ≤ 12884901888 := by omega
  rw [← hM] at hf1
  have HM := Aside0.mk hM; clear hM
  go_enter Try.func48, Try.ntmps48
  go_wp2_with fail
  clear f1 f2 f3 d1 hie
  go_loopw [23] (fun v wr => ∃ (p : Nat) (s : List Int × Int), v = .int .i64 p ∧ p ≤ P ∧ Aside0 (shL F (fun p => ld p == 0) (P - p) p s = shL F (fun p => ld p == 0) P 0 st) ∧ Aside0 (SI N bl bt bg bb bp bd bs g A c ts P s ld gv i.toNat w wr)) (fun v _ => P - (intOf v).toNat)
  case atStart => exact ⟨0, st, rfl, by omega, ⟨rfl⟩, ⟨⟨Kp.refl _ _, gv, ⟨_, _, _, H.out⟩, rfl⟩⟩⟩
  case round =>
    obtain ⟨p, s, rfl, hpP, HE, HI⟩ := hrel
    by_cases hlt : p < P
    · obtain ⟨hk, gv1, ⟨B1, n1, cap1, hS⟩, hg⟩ := HI.out
      have hp4 : p < 4 := by omega
      have hlt' : (p : Int) < P := by omega
      have HK := Aside0.mk hk; clear hk
      have HS := Aside0.mk hS; clear hS
      have HG := Aside0.mk hg; clear hg
      have HNr := Aside0.mk (Nat.le_trans HNN.out HK.out.size)
      obtain ⟨ad, e1, g1⟩ := Kd.at_int HS.out.r i hi0 hn
      subst e1
      rw [← HT.out] at g1
      have f2 := HS.out.t.at_ (i := 0) rfl
      obtain ⟨q, hq⟩ : ∃ z, z = ld p := ⟨_, rfl⟩
      have hq1 := HLD.out p
      rw [← hq, ← HM.out] at hq1
      obtain ⟨hq0, hq1⟩ := hq1
      have f4 : wr.cell? ⟨bd, p, none⟩ = some (.int .i64 q) := by
        have a := HS.out.d.at_ (ints_get (lds ld) (show p < (lds ld).length from hp4))
        rw [lds_get ld hp4, ← hq] at a
        exact a
      have f5 := HS.out.d.free p
      have HQ := Aside0.mk hq; clear hq
      go_upto_region 6 with fail
      go_cut [11] from 26 to 34 (fun v w1 => v = .int .i64 p ∧ Aside0 (SH N bl bt bg bb bp bd bs g (some ad) c ts P B1 n1 cap1 s (upd ld p t) gv1 w1) ∧ Aside0 (Kp (SF bl bb bd g) w w1))
      case first =>
        go_region
        all_goals go_wp2_with fail
        all_goals go_meet
        all_goals (case rel => exact ⟨rfl, ⟨HS.out.setD HNr.out p (by omega) (by omega) (by rw [HQ.out]; rfl)⟩, ⟨(HK.out.setCell (fun _ => .inr (.inr (.inl rfl))) _).drew⟩⟩)
      case rest =>
      obtain ⟨rfl, HS2, HK2⟩ := hcut
      obtain ⟨w2, hw2⟩ : ∃ z, z = wc := ⟨_, rfl⟩
      subst hw2
      clear g1 f2 f4 f5
      have hil : i.toNat < gv1.length := by rw [HS2.out.gl]; omega
      have f1 := HS2.out.g1.at_ (i := 0) rfl
      have f2 := HS2.out.g2.at_ (ints_get gv1 hil)
      have f3 := HS2.out.g2.free i.toNat
      have hN2 : N ≤ w2.heap.size := Nat.le_trans HNN.out HK2.out.size
      go_upto_region 7 with fail
      go_cut [11] from 35 to 38 (fun v w1 => v = .int .i64 p ∧ Aside0 (SH N bl bt bg bb bp bd bs g (some ad) c ts P B1 n1 cap1 s (upd ld p t) (gv1.set i.toNat p) w1) ∧ Aside0 (Kp (SF bl bb bd g) w w1))
      case first =>
        go_wp2_with fail
        go_meet
        case rel => exact ⟨rfl, ⟨HS2.out.setG hN2 _ _⟩, ⟨HK2.out.setCell (fun _ => .inr (.inr (.inr rfl))) _⟩⟩
      case rest =>
      obtain ⟨rfl, HS3, HK3⟩ := hcut
      obtain ⟨w3, hw3⟩ : ∃ z, z = wc := ⟨_, rfl⟩
      subst hw3
      clear f1 f2 f3
      have f1 := HS3.out.s.at_ (i := 0) rfl
      have f2 : w3.cell? ⟨bd, p, none⟩ = some (.int .i64 (q + t)) := by
        have a := HS3.out.d.at_ (ints_get (lds (upd ld p t)) (show p < (lds (upd ld p t)).length from hp4))
        rw [lds_get _ hp4, upd_self, ← HQ.out] at a
        exact a
      have hN3 : N ≤ w3.heap.size := Nat.le_trans HNN.out HK3.out.size
      have HLD2 : Aside0 (∀ k, 0 ≤ upd ld p t k ∧ upd ld p t k ≤ (i + 1) * 1073741824) := ⟨fun k => by
        have a := HLD.out k
        have b := HLD.out p
        unfold upd
        split <;> omega⟩
      go_upto_region 8 with fail
      go_cut [11] from 39 to 47 (fun v w5 => v = .int .i64 p ∧ Aside0 (SPost N bl bt bg bb bp bd bs g (some ad) c ts P (shF P rest (max fin (q + t)) (upd ld p t) ((gv1.set i.toNat p).take (i + 1).toNat) s) (upd ld p t) (gv1.set i.toNat p) (i + 1).toNat w3 w5))
      case first =>
        have HI2 := Aside0.mk (IH.out (max fin (q + t)) w3.drew s B1 n1 cap1 (upd ld p t) (gv1.set i.toNat p) { HS3.out with } hN3 (by omega) (by have := HM.out; omega) HLD2.out)
        have j1 : (0 : Int) ≤ (p : Int) := by omega
        have j2 : (p : Int) < 4 := by omega
        have j3 : (p : Int).toNat = p := Int.toNat_natCast p
        have j5 : (p : Int).toNat < 4 := by omega
        have j6 : w3.cell? ⟨bd, (p : Int).toNat, none⟩ = some (.int .i64 (q + t)) := by rw [j3]; exact f2
        have j4 : IntKind.i64.wrap (i + 1) = i + 1 := IntWalk.i64_in _ (by omega)
        go_still_tail 8, (by kernel_rfl)
        change wpList _ _ _ _ _ w3.drew
        go_wp2_with ((with_reducible refine HI2.out.mono ?_); rintro e5 w5 ⟨rfl, hp5⟩; have HP5 := Aside0.mk hp5; clear hp5)
        go_meet
        case rel =>
          refine ⟨rfl, ⟨?_, HP5.out.2⟩⟩
          exact ⟨HP5.out.1.os, HP5.out.1.tape, HP5.out.1.output, HP5.out.1.size, HP5.out.1.block⟩
      case rest =>
      obtain ⟨rfl, HP⟩ := hcut
      obtain ⟨w5, hw5⟩ : ∃ z, z = wc := ⟨_, rfl⟩
      subst hw5
      have hg1l : (gv1.set i.toNat p).take (i + 1).toNat = gv.take i.toNat ++ [(p : Int)] := by
        rw [← HG.out, show (i + 1).toNat = i.toNat + 1 by omega, List.take_succ_eq_append_getElem (by simpa using hil)]
        simp [List.take_set_of_le]
      obtain ⟨s5, hs5⟩ : ∃ z, z = F p s := ⟨_, rfl⟩
      have hFs : shF P rest (max fin (q + t)) (upd ld p t) ((gv1.set i.toNat p).take (i + 1).toNat) s = s5 := by
        rw [hs5, HF.out, hg1l, HQ.out]
      obtain ⟨hk5, gv5, ⟨B5, n5, cap5, hS5⟩, hg5⟩ := HP.out
      rw [hFs] at hS5
      have hg6 : gv5.take i.toNat = gv.take i.toNat := by
        have a := congrArg (List.take i.toNat) hg5
        rw [List.take_take, hg1l, show min i.toNat (i + 1).toNat = i.toNat by omega] at a
        rw [a, List.take_append_of_le_length (by rw [← HG.out, List.length_take]; omega), List.take_take, Nat.min_self]
      have HS5 := Aside0.mk hS5
      have HK5 := Aside0.mk (HK3.out.step hk5)
      have HG6 := Aside0.mk hg6
      have HF5 := Aside0.mk hs5
      clear hS5 hk5 hg6 hs5 hFs hg1l hg5 HP f1 f2
      have hN5 : N ≤ w5.heap.size := Nat.le_trans HNN.out HK5.out.size
      obtain ⟨ad5, e1, g1⟩ := Kd.at_int HS5.out.r i hi0 hn
      cases e1
      rw [← HT.out] at g1
      have f2 := HS5.out.t.at_ (i := 0) rfl
      have f4 : w5.cell? ⟨bd, p, none⟩ = some (.int .i64 (q + t)) := by
        have a := HS5.out.d.at_ (ints_get (lds (upd ld p t)) (show p < (lds (upd ld p t)).length from hp4))
        rw [lds_get _ hp4, upd_self, ← HQ.out] at a
        exact a
      have f5 := HS5.out.d.free p
      go_upto_region 9 with fail
      go_cut [11] from 48 to 56 (fun v w1 => v = .int .i64 p ∧ Aside0 (SH N bl bt bg bb bp bd bs g (some ad) c ts P B5 n5 cap5 s5 ld gv5 w1) ∧ Aside0 (Kp (SF bl bb bd g) w w1))
      case first =>
        go_region
        all_goals go_wp2_with fail
        all_goals go_meet
        all_goals (case rel =>
          refine ⟨rfl, ⟨?_⟩, ⟨(HK5.out.setCell (fun _ => .inr (.inr (.inl rfl))) _).drew⟩⟩
          have a := HS5.out.setD hN5 p (by omega) (by omega) (q := q) (t := -t) (by rw [Int.toNat_natCast, upd_self, HQ.out]; omega)
          rw [Int.toNat_natCast, upd_back] at a
          exact a)
      case rest =>
      obtain ⟨rfl, HS6, HK6⟩ := hcut
      obtain ⟨w6, hw6⟩ : ∃ z, z = wc := ⟨_, rfl⟩
      subst hw6
      clear g1 f2 f4 f5
      have f4 : w6.cell? ⟨bd, p, none⟩ = some (.int .i64 q) := by
        have a := HS6.out.d.at_ (ints_get (lds ld) (show p < (lds ld).length from hp4))
        rw [lds_get ld hp4, ← HQ.out] at a
        exact a
      have HST := Aside0.mk (HE.out.symm.trans (shL_step F (fun p => ld p == 0) P p s hlt))
      by_cases hq : q = 0
      · have d5 : (q == 0) = true := by simpa using hq
        have HZ : Aside0 (s5 = shL F (fun p => ld p == 0) P 0 st) := ⟨by
          rw [HST.out, if_pos (by show (ld p == 0) = true; rw [← HQ.out]; exact d5), HF5.out]⟩
        go_wp2_with fail
        go_end0
        refine ⟨rfl, HK6.out, ?_⟩
        rw [← HZ.out]
        exact ⟨gv5, ⟨_, _, _, HS6.out⟩, HG6.out⟩
      · have d5 : (q == 0) = false := by simpa using hq
        go_wp2_with fail
        go_roundw
        case rel =>
          refine ⟨p + 1, s5, by go_num, by omega, ⟨?_⟩, ⟨⟨HK6.out, gv5, ⟨_, _, _, HS6.out⟩, HG6.out⟩⟩⟩
          rw [HST.out, if_neg (by show ¬ (ld p == 0) = true; rw [← HQ.out, d5]; simp), HF5.out]
        case measure => show P - ((p : Int) + 1).toNat < P - (p : Int).toNat; omega
    · have hpe : p = P := by omega
      have HZ : Aside0 (s = shL F (fun p => ld p == 0) P 0 st) := ⟨by rw [← HE.out, hpe, Nat.sub_self]; rfl⟩
      go_wp2_with fail
      go_end0
      refine ⟨rfl, HI.out.k, ?_⟩
      rw [← HZ.out]
      exact HI.out.h

/-- The search: whatever is still to be given. -/
theorem sh_any {N bl bt bg bb bp bd bs g : Nat} {A : Option Addr} {c : Nat} {ts : List Int} {P : Nat} (hms : MOK ts) (hP : P ≤ 4) :
    ∀ (k : Nat) (i fin : Int) (w : World) (st : List Int × Int) (B : Option Addr) (n cap : Nat) (ld : Nat → Int) (gv : List Int), k = ts.length - i.toNat → 0 ≤ i → i ≤ ts.length → SH N bl bt bg bb bp bd bs g A c ts P B n cap st ld gv w → N ≤ w.heap.size → 0 ≤ fin → fin ≤ i * 1073741824 → (∀ p, 0 ≤ ld p ∧ ld p ≤ i * 1073741824) →
      Calls Try.prog 48 #[.int .i64 i, .int .i64 fin, .pointer (some ⟨bl, 0, none⟩), .pointer (some ⟨bt, 0, none⟩), .pointer (some ⟨bg, 0, none⟩), .pointer (some ⟨bb, 0, none⟩), .pointer (some ⟨bp, 0, none⟩), .pointer (some ⟨bd, 0, none⟩), .pointer (some ⟨bs, 0, none⟩)] w
        fun e w' => e = .returned (.tuple #[]) ∧ SPost N bl bt bg bb bp bd bs g A c ts P (shF P (ts.drop i.toNat) fin ld (gv.take i.toNat) st) ld gv i.toNat w w' := by
  intro k
  induction k with
  | zero =>
    intro i fin w st B n cap ld gv hk h0 h1 h hN hf0 hf1 hld
    have e : i = ts.length := by omega
    subst e
    rw [Int.toNat_natCast, List.drop_length, shF]
    by_cases hf : st.2 ≤ fin
    · rw [if_pos hf]
      refine (sh_out h _ fin hf).mono ?_
      rintro e w' ⟨rfl, rfl⟩
      exact ⟨rfl, Kp.refl _ _, gv, ⟨_, _, _, h⟩, rfl⟩
    · rw [if_neg hf, ← h.gl, List.take_length, h.gl]
      exact sh_leaf h hN fin hf hms.1
  | succ k ih =>
    intro i fin w st B n cap ld gv hk h0 h1 h hN hf0 hf1 hld
    have hl : i < ts.length := by omega
    rw [drop_rd ts i h0 hl]
    have hb := hms.at_ i h0 hl
    by_cases hf : st.2 ≤ fin
    · rw [shF, if_pos hf]
      refine (sh_out h _ fin hf).mono ?_
      rintro e w' ⟨rfl, rfl⟩
      exact ⟨rfl, Kp.refl _ _, gv, ⟨_, _, _, h⟩, rfl⟩
    · exact sh_round h hN i fin hf h0 hl hms.1 hP hf0 hf1 hld ⟨by omega, hb.2⟩ _ (fun fin w st B n cap ld gv h hN a b d => ih (i + 1) fin w st B n cap ld gv (by omega) (by omega) (by omega) h hN a b d)

/-! ### The order of the longest works first: its comparison; the greatest of some numbers. -/
/-- The longer work first. -/
def cmpD (ts : List Int) (x y : Int) : Int := cmpI (rd ts y) (rd ts x)
theorem enter69 (args : Array Value) (W : World) : (callFunc 69 args).run Try.prog W = .ok (.enter 69 args) W := by kernel_rfl

set_option maxRecDepth 100000 in
set_option maxHeartbeats 2000000 in
theorem dcmp_any (w : World) (A : Option Addr) (c b : Nat) (ts : List Int) (h : (Kd.int .i64).C w A ts.length ts) (hb : w.cell? ⟨b, 0, none⟩ = some (.slice A ts.length c)) (x y : Int) (hx : 0 ≤ x ∧ x < ts.length) (hy : 0 ≤ y ∧ y < ts.length) :
    Calls Try.prog 69 #[.int .i64 x, .int .i64 y, .pointer (some ⟨b, 0, none⟩)] w fun e w' => e = .returned (.int .i64 (cmpD ts x y)) ∧ Below w.heap.size w w' := by
  obtain ⟨ad, e1, g1⟩ := Kd.at_int h x hx.1 hx.2
  obtain ⟨ad2, e2, k1⟩ := Kd.at_int h y hy.1 hy.2
  subst e1
  cases e2
  clear h
  obtain ⟨hx1, hx2⟩ := hx
  obtain ⟨hy1, hy2⟩ := hy
  have HC : Aside0 (cmpD ts x y = cmpI (rd ts y) (rd ts x)) := ⟨rfl⟩
  obtain ⟨p, hp⟩ : ∃ z, z = rd ts x := ⟨_, rfl⟩
  obtain ⟨q, hq⟩ : ∃ z, z = rd ts y := ⟨_, rfl⟩
  rw [← hp] at g1
  rw [← hq] at k1
  have HPQ := Aside0.mk (And.intro hp hq)
  clear hp hq
  have hc := Aside0.mk (fun W => compare_any W q p)
  go_enter Try.func69, Try.ntmps69
  go_upto_region 1 with fail
  go_still_tail 8, (by kernel_rfl)
  change wpList _ _ _ _ _ w.drew
  go_wp2_with ((with_reducible refine (hc.out _).mono ?_); rintro e w' ⟨rfl, rfl⟩)
  go_ret
  exact ⟨ret_int (by rw [HC.out, HPQ.out.1, HPQ.out.2]), below_drew (Below.refl _ _)⟩
def dI (A : Option Addr) (c b : Nat) (ts : List Int) (W : World) : Prop := (Kd.int .i64).C W A ts.length ts ∧ W.cell? ⟨b, 0, none⟩ = some (.slice A ts.length c)
theorem dC {A : Option Addr} {c b g N : Nat} {ts : List Int} (hA : 0 < ts.length → ∀ ad, A = some ad → ad.block < N) (hb : b < N) (hg : N ≤ g) : CmpC 69 b (fun W => N ≤ W.heap.size ∧ dI A c b ts W) (cmpD ts) (fun x => 0 ≤ x ∧ x < ts.length) g where
  en := enter69
  calls := fun W x y hI hx hy => dcmp_any W A c b ts hI.2.1 hI.2.2 x y hx hy
  keep := fun W W' hI k => by
    refine ⟨Nat.le_trans hI.1 k.size, ?_, ?_⟩
    · exact C_kp hI.2.1 k (fun hp ad e => ⟨Nat.lt_of_lt_of_le (hA hp ad e) hI.1, fun h => by have := hA hp ad e; omega⟩)
    · exact k.cell hI.2.2 (fun h => by dsimp only at h; omega)

/-- The greatest of some numbers, one at least. -/
def maxF (xs : List Int) : Int := (xs.drop 1).foldl max (rd xs 0)
theorem max_any (w : World) (g : Nat) (xs : List Int) (h : Blk w g (ints xs) 3) (h1 : 1 ≤ xs.length) (hl : xs.length ≤ 100000) :
    Calls Try.prog 70 #[.slice (some ⟨g, 0, none⟩) xs.length xs.length] w fun e w' => e = .returned (.int .i64 (maxF xs)) ∧ w = w' := by
  obtain ⟨x0, hx0⟩ : ∃ z, z = rd xs 0 := ⟨_, rfl⟩
  have g1 : w.cell? ⟨g, 0, none⟩ = some (.int .i64 x0) := by rw [hx0]; exact h.at_ (ints_get xs (show 0 < xs.length by omega))
  have HX0 := Aside0.mk hx0; clear hx0
  have d0 : ¬ (xs.length : Int) < 1 := by omega
  have d1 : decide ((xs.length : Int) < 1) = false := decide_eq_false d0
  have d2 : (0 : Int) < xs.length := by omega
  have HC := Aside0.mk h; clear h
  go_enter Try.func70, Try.ntmps70
  go_wp2_with fail
  go_loop [3, 4] (fun v v2 => ∃ m i : Int, v = .int .i64 m ∧ v2 = .int .i64 i ∧ 1 ≤ i ∧ i ≤ xs.length ∧ Aside0 ((xs.drop i.toNat).foldl max m = maxF xs)) (fun _ v => xs.length - (intOf v).toNat)
  case atStart => exact ⟨_, 1, rfl, rfl, by omega, by omega, ⟨by rw [HX0.out]; rfl⟩⟩
  case round =>
    obtain ⟨m, i, rfl, rfl, h0, h2, HE⟩ := hrel
    by_cases hlt : i < xs.length
    · have g2 : w.cell? ⟨g, i.toNat, none⟩ = some (.int .i64 (rd xs i)) := HC.out.at_ (ints_get xs (show i.toNat < xs.length by omega))
      have he := HE.out
      rw [drop_rd xs i (by omega) hlt, List.foldl_cons] at he
      obtain ⟨x, hx⟩ : ∃ z, z = rd xs i := ⟨_, rfl⟩
      rw [← hx] at g2 he
      have HE2 := Aside0.mk he; clear he hx HE g1
      have hi0 : 0 ≤ i := by omega
      go_wp2_with fail
      go_round
      case rel => exact ⟨max m x, i + 1, rfl, by go_num, by omega, by omega, HE2⟩
      case measure => show xs.length - (i + 1).toNat < xs.length - i.toNat; omega
    · go_wp2_with fail
      go_ret
      have he := HE.out
      rw [show i.toNat = xs.length by omega, List.drop_length] at he
      exact ⟨ret_int he, rfl⟩

/-! ### What the rule of the longest works first gives. -/
/-- The first press of the first k that has least. -/
def minK (ld : Nat → Int) (k : Nat) : Nat := (List.range k).foldl (fun p k => if ld k < ld p then k else p) 0
theorem minK_succ (ld : Nat → Int) (k : Nat) : minK ld (k + 1) = if ld k < ld (minK ld k) then k else minK ld k := by
  unfold minK
  rw [List.range_succ, List.foldl_append]
  rfl
theorem minK_lt (ld : Nat → Int) {P : Nat} (h : 0 < P) : ∀ k, k ≤ P → minK ld k < P := by
  intro k
  induction k with
  | zero => intro _; exact h
  | succ k ih =>
    intro hk
    rw [minK_succ]
    have := ih (by omega)
    split <;> omega
def lls (ld : Nat → Int) (P : Nat) : List Int := (List.range P).map ld
theorem lls_length (ld : Nat → Int) (P : Nat) : (lls ld P).length = P := by simp [lls]
theorem lls_get (ld : Nat → Int) {P i : Nat} (h : i < P) : (lls ld P).getD i 0 = ld i := by simp [lls, List.getD_eq_getElem?_getD, h]
theorem lls_set (ld : Nat → Int) (P b : Nat) (t : Int) : (lls ld P).set b (ld b + t) = lls (upd ld b t) P := by
  apply List.ext_getElem (by simp [lls])
  intro i h1 h2
  simp only [lls, List.length_set, List.length_map, List.length_range] at h1 h2
  rw [List.getElem_set]
  simp only [lls, List.getElem_map, List.getElem_range, upd]
  by_cases h : b = i
  · subst h; simp
  · rw [if_neg h, if_neg (fun e => h e.symm)]
theorem lls_zero (P : Nat) : lls (fun _ => 0) P = List.replicate P 0 := by
  apply List.ext_getElem (by simp [lls])
  intro i h1 h2
  simp [lls]
/-- One work more. -/
def lstep (ts : List Int) (P : Nat) (s : (Nat → Int) × List Int) (i : Int) : (Nat → Int) × List Int :=
  (upd s.1 (minK s.1 P) (rd ts i), s.2.set i.toNat (minK s.1 P))
def lptF (ts : List Int) (P : Nat) (O : List Int) : (Nat → Int) × List Int := O.foldl (lstep ts P) (fun _ => 0, List.replicate ts.length 0)
def longOrd (ts : List Int) : List Int := srt (cmpD ts) (upto ts.length)

structure LM (b g gg gd : Nat) (A : Option Addr) (c : Nat) (ts O : List Int) (P : Nat) (ld : Nat → Int) (gv : List Int) (w0 w : World) : Prop where
  t : Blk w b [.slice A ts.length c] 22
  o : Blk w g (ints O) 3
  v : Blk w gg (ints gv) 3
  d : Blk w gd (ints (lls ld P)) 3
  vl : gv.length = ts.length
  b : Below w0.heap.size w0 w
  n1 : g ≠ gg
  n2 : g ≠ gd
  n3 : gg ≠ gd
  s1 : w0.heap.size ≤ gg
  s2 : w0.heap.size ≤ gd
theorem LM.start {b g gg gd : Nat} {A : Option Addr} {c : Nat} {ts O : List Int} {P : Nat} {w0 w w1 : World} (hb : Below w0.heap.size w0 w) (ht : Blk w b [.slice A ts.length c] 22) (ho : Blk w g (ints O) 3) (hs : w0.heap.size ≤ w.heap.size)
    (h1 : w1.heap[gg]? = some (.cells (madeCells #[.int .i64 0] ts.length) 3 (0, 0))) (h2 : w1.heap[gd]? = some (.cells (madeCells #[.int .i64 0] P) 3 (0, 0))) (hB : Below w.heap.size w w1) (n1 : w.heap.size ≤ gg) (n2 : w.heap.size ≤ gd) (n3 : gg ≠ gd) :
    LM b g gg gd A c ts O P (fun _ => 0) (List.replicate ts.length 0) w0 w1 := by
  rw [made_ints] at h1 h2
  have := ho.lt
  exact { t := ht.below hB, o := ho.below hB, v := h1, d := by rw [lls_zero]; exact h2, vl := by simp, b := below_step hb hB, n1 := by omega, n2 := by omega, n3 := n3, s1 := by omega, s2 := by omega }
section
variable {b g gg gd : Nat} {A : Option Addr} {c : Nat} {ts O : List Int} {P : Nat} {ld : Nat → Int} {gv : List Int} {w0 w : World}
theorem LM.setV (h : LM b g gg gd A c ts O P ld gv w0 w) (i : Nat) (p : Int) : LM b g gg gd A c ts O P ld (gv.set i p) w0 (w.setCell ⟨gg, i, none⟩ (.int .i64 p)) :=
  { h with
    t := h.t.far (h.t.ne_of_type h.v (by decide)) _
    o := h.o.far h.n1 _
    v := by have a := h.v.set i (.int .i64 p); rwa [ints_set] at a
    d := h.d.far (fun e => h.n3 e.symm) _
    vl := by simpa using h.vl
    b := h.b.setCell h.s1 _ }
theorem LM.setD (h : LM b g gg gd A c ts O P ld gv w0 w) (p : Nat) {q t : Int} (hq : q = ld p + t) : LM b g gg gd A c ts O P (upd ld p t) gv w0 (w.setCell ⟨gd, p, none⟩ (.int .i64 q)).drew :=
  { h with
    t := (h.t.far (h.t.ne_of_type h.d (by decide)) _).drew
    o := (h.o.far h.n2 _).drew
    v := (h.v.far h.n3 _).drew
    d := by
      have a := h.d.set p (.int .i64 q)
      rw [ints_set, hq, lls_set] at a
      rw [hq]; exact a.drew
    b := below_drew (h.b.setCell h.s2 _) }
end
def LPost (ts : List Int) (P : Nat) (w : World) (e : Ending) (w' : World) : Prop :=
  Below w.heap.size w w' ∧ ∃ gg : Nat, e = .returned (.tuple #[.slice (some ⟨gg, 0, none⟩) ts.length ts.length, .int .i64 (maxF (lls (lptF ts P (longOrd ts)).1 P))]) ∧ Blk w' gg (ints (lptF ts P (longOrd ts)).2) 3 ∧ (lptF ts P (longOrd ts)).2.length = ts.length

set_option maxRecDepth 100000 in
set_option maxHeartbeats 8000000 in
theorem longest_any (w : World) (A : Option Addr) (c : Nat) (ts : List Int) (P : Nat) (h : (Kd.int .i64).C w A ts.length ts) (hms : MOK ts) (hP1 : 1 ≤ P) (hP : P ≤ 4) :
    Calls Try.prog 47 #[.slice A ts.length c, .int .i64 P] w (LPost ts P w) := by
  have ra := C_lt h
  have hlen := hms.1
  have mk1 := print_make (P := Try.prog) 22 3 .i64 8 Try.underlying22 info3 (by decide) ts.length (by omega)
  have mk2 := print_make (P := Try.prog) 22 3 .i64 8 Try.underlying22 info3 (by decide) P (by omega)
  have hb1 := below_alloc (Below.refl w.heap.size w) (.cells #[.slice A ts.length c] 22)
  have B1 := Blk.new w [.slice A ts.length c] 22
  obtain ⟨w1, hw1⟩ : ∃ z, z = w.alloc (.cells #[.slice A ts.length c] 22) := ⟨_, rfl⟩
  have hs1 : w1.heap.size = w.heap.size + 1 := by rw [hw1]; simp
  have hris := rising_any w1 ts.length (by omega)
  have B1' : Blk w1 w.heap.size [.slice A ts.length c] 22 := by rw [hw1]; exact B1
  have hc1 := B1'.at_ (i := 0) rfl
  have hb1' : Below w.heap.size w w1 := by rw [hw1]; exact hb1
  rw [hw1] at hris hc1
  have HW1 := Aside0.mk hw1
  have HRIS := Aside0.mk hris
  have HB1 := Aside0.mk (And.intro hb1' (And.intro B1' hs1))
  have HR := Aside0.mk h
  have RA := Aside0.mk ra
  have HM := Aside0.mk hms
  clear h ra hms hb1 B1 hris hb1' B1' hs1 hw1
  go_enter Try.func47, Try.ntmps47
  go_upto_region 2 with ((with_reducible refine HRIS.out.mono ?_); rintro e6 w6 ⟨g, rfl, hg0, hb6, hg6⟩; rw [← HW1.out] at hg0 hb6; have HB6 := Aside0.mk (And.intro hg0 (And.intro hb6 hg6)); clear hg0 hb6 hg6)
  clear hc1
  obtain ⟨hg0, hb6, hg6⟩ := HB6.out
  have q6 := HB1.out.2.1.below hb6
  have hs1 := HB1.out.2.2
  have hI : (w1.heap.size ≤ w6.heap.size) ∧ dI A c w.heap.size ts w6 := ⟨hb6.size, Kd.C_below HR.out (HB1.out.1.trans (hb6.mono (by omega))), q6.at_ (i := 0) rfl⟩
  have hC := dC (A := A) (c := c) (b := w.heap.size) (g := g) (N := w1.heap.size) (ts := ts) (fun hp ad e => Nat.lt_of_lt_of_le (RA.out hp ad e) (by omega)) (by omega) hg0
  have hcall := sortsFew (upto ts.length) (by rw [upto_length]; omega) w6 (fun x hx => (upto_mem _ x).1 hx) hg6 hI hC
  rw [upto_length] at hcall
  have hb7 : Below w.heap.size w w6 := HB1.out.1.trans (hb6.mono (by omega))
  have HB7 := Aside0.mk hb7
  have HQ6 := Aside0.mk q6
  have HG := Aside0.mk (show w.heap.size < g by omega)
  have HC := Aside0.mk hcall
  clear hcall hC hI hb7 hg6 hb6 hg0 HB6 q6 hs1
  go_upto_region 3 with ((with_reducible refine HC.out.mono ?_); rintro e7 w7 ⟨rfl, hk7, hg7⟩; have HK7 := Aside0.mk (And.intro hk7 hg7); clear hk7 hg7)
  obtain ⟨hk7, hg7⟩ := HK7.out
  have hb8 : Below w.heap.size w w7 := ((Kp.of_below HB7.out : Kp (fun i => i = g) w w6).step hk7).below_of (fun i hi => by have := HG.out; omega)
  have q7 := HQ6.out.kp hk7 (by have := HG.out; omega)
  have hc1 := q7.at_ (i := 0) rfl
  have hsz : w.heap.size < w7.heap.size := q7.lt
  have hOL : (longOrd ts).length = ts.length := by unfold longOrd; rw [srt_length, upto_length]
  have HO : Aside0 (∀ x ∈ longOrd ts, 0 ≤ x ∧ x < ts.length) := ⟨fun x hx => (upto_mem _ x).1 ((srt_perm_mem _ _ x).1 hx)⟩
  have hg7' : Blk w7 g (ints (longOrd ts)) 3 := hg7
  have HX := Aside0.mk (And.intro hb8 (And.intro q7 hg7'))
  clear hb8 q7 hg7 hg7' hk7 HK7 HB7 HQ6 HC
  go_cut [7, 8] from 20 to 24 (fun a b w8 => ∃ gg gd : Nat, a = .slice (some ⟨gg, 0, none⟩) ts.length ts.length ∧ b = .slice (some ⟨gd, 0, none⟩) P P ∧ Aside0 (LM w.heap.size g gg gd A c ts (longOrd ts) P (fun _ => 0) (List.replicate ts.length 0) w w8))
  case first =>
    go_region
    all_goals go_wp2_with fail
    all_goals go_meet
    all_goals (case rel => exact ⟨_, _, rfl, rfl, ⟨LM.start HX.out.1 HX.out.2.1 HX.out.2.2 HX.out.1.size (by first | exact h2_0 .. | exact h2_1 ..) (by first | exact h2_0 .. | exact h2_1 ..) (h2_b ..) (by omega) (by omega) (by omega)⟩⟩)
  case rest =>
  obtain ⟨gg, gd, rfl, rfl, HL⟩ := hcut
  clear mk1 mk2 hc1
  have HOL := Aside0.mk hOL; clear hOL
  go_wp2_with fail
  go_loopw [27] (fun v wr => ∃ (j : Int) (s : (Nat → Int) × List Int), v = .int .i64 j ∧ 0 ≤ j ∧ j ≤ ts.length ∧ Aside0 (LM w.heap.size g gg gd A c ts (longOrd ts) P s.1 s.2 w wr) ∧ Aside0 (((longOrd ts).drop j.toNat).foldl (lstep ts P) s = lptF ts P (longOrd ts)) ∧ Aside0 (∀ k, 0 ≤ s.1 k ∧ s.1 k ≤ j * 1073741824)) (fun v _ => ts.length - (intOf v).toNat)
  case atStart => exact ⟨0, (fun _ => 0, List.replicate ts.length 0), rfl, by omega, by omega, HL, ⟨rfl⟩, ⟨fun k => by simp⟩⟩
  case round =>
    obtain ⟨j, s, rfl, hj0, hj1, HLr, HE, HB⟩ := hrel
    by_cases hlt : j < ts.length
    · have hlo : j < (longOrd ts).length := by rw [HOL.out]; exact hlt
      obtain ⟨x, hx⟩ : ∃ z, z = rd (longOrd ts) j := ⟨_, rfl⟩
      have hxm : 0 ≤ x ∧ x < ts.length := HO.out x (by
        rw [hx]; unfold rd
        rw [List.getD_eq_getElem?_getD, List.getElem?_eq_getElem (show j.toNat < (longOrd ts).length by omega)]
        exact List.getElem_mem _)
      have f1 : wr.cell? ⟨g, j.toNat, none⟩ = some (.int .i64 x) := by
        rw [hx]; exact HLr.out.o.at_ (ints_get (longOrd ts) (show j.toNat < (longOrd ts).length by omega))
      have he := HE.out
      rw [drop_rd _ j hj0 hlo, List.foldl_cons, ← hx] at he
      have HE2 := Aside0.mk he
      clear he hx hlo HE
      obtain ⟨hx0, hx1⟩ := hxm
      go_wp2_with fail
      clear f1
      go_loop [11, 33] (fun v v2 => ∃ p k : Nat, v = .int .i64 p ∧ v2 = .int .i64 k ∧ k ≤ P ∧ p < P ∧ Aside0 (p = minK s.1 k)) (fun _ v => P - (intOf v).toNat)
      case atStart => exact ⟨0, 0, rfl, rfl, by omega, by omega, ⟨rfl⟩⟩
      case round =>
        obtain ⟨p, k, rfl, rfl, hk, hp, HPK⟩ := hrel
        by_cases hkl : k < P
        · have hkl' : (k : Int) < P := by omega
          obtain ⟨y1, hy1⟩ : ∃ z, z = s.1 k := ⟨_, rfl⟩
          obtain ⟨y2, hy2⟩ : ∃ z, z = s.1 p := ⟨_, rfl⟩
          have f2 : wr.cell? ⟨gd, k, none⟩ = some (.int .i64 y1) := by
            have a := HLr.out.d.at_ (ints_get _ (show k < (lls s.1 P).length by rw [lls_length]; exact hkl))
            rw [lls_get _ hkl, ← hy1] at a; exact a
          have f3 : wr.cell? ⟨gd, p, none⟩ = some (.int .i64 y2) := by
            have a := HLr.out.d.at_ (ints_get _ (show p < (lls s.1 P).length by rw [lls_length]; exact hp))
            rw [lls_get _ hp, ← hy2] at a; exact a
          have HY := Aside0.mk (And.intro hy1 hy2); clear hy1 hy2
          by_cases hc : y1 < y2
          · have d1 : decide (y1 < y2) = true := decide_eq_true hc
            go_wp2_with fail
            go_round
            case rel => exact ⟨k, k + 1, rfl, by go_num, by omega, hkl, ⟨by rw [minK_succ, ← HPK.out, ← HY.out.1, ← HY.out.2, if_pos hc]⟩⟩
            case measure => show P - ((k : Int) + 1).toNat < P - (k : Int).toNat; omega
          · have d1 : decide (y1 < y2) = false := decide_eq_false hc
            go_wp2_with fail
            go_round
            case rel => exact ⟨p, k + 1, rfl, by go_num, by omega, hp, ⟨by rw [minK_succ, ← HPK.out, ← HY.out.1, ← HY.out.2, if_neg hc]⟩⟩
            case measure => show P - ((k : Int) + 1).toNat < P - (k : Int).toNat; omega
        · have hkP : ¬ (k : Int) < P := by omega
          have HPM : Aside0 (p = minK s.1 P) := ⟨by rw [HPK.out, show k = P by omega]⟩
          have hlt' : j + 1 ≤ ts.length := by omega
          have HC1 := Aside0.mk (fun W (hW : Below w.heap.size w W) => Kd.at_int (Kd.C_below HR.out hW) x hx0 hx1)
          obtain ⟨t, htt⟩ : ∃ z, z = rd ts x := ⟨_, rfl⟩
          have hmb := HM.out.at_ x hx0 hx1
          rw [← htt] at hmb
          obtain ⟨ht0, ht1⟩ := hmb
          have HT := Aside0.mk htt; clear htt
          obtain ⟨q, hq⟩ : ∃ z, z = s.1 p := ⟨_, rfl⟩
          obtain ⟨M, hM⟩ : ∃ z, z = j * 1073741824 := ⟨_, rfl⟩
          have hqb := HB.out p
          rw [← hq, ← hM] at hqb
          obtain ⟨hq0, hq1⟩ := hqb
          have hM1 : M ≤ 12884901888 := by omega
          have HMM := Aside0.mk hM; clear hM
          have HQ := Aside0.mk hq; clear hq
          have v1 := HLr.out.v.at_ (ints_get s.2 (show x.toNat < s.2.length by rw [HLr.out.vl]; omega))
          have v2 := HLr.out.v.free x.toNat
          have hxl : x.toNat < ts.length := by omega
          go_upto_region 14 with fail
          go_cut [11] from 46 to 49 (fun v w1 => v = .int .i64 p ∧ Aside0 (LM w.heap.size g gg gd A c ts (longOrd ts) P s.1 (s.2.set x.toNat p) w w1))
          case first =>
            go_wp2_with fail
            go_meet
            case rel => exact ⟨rfl, ⟨HLr.out.setV _ _⟩⟩
          case rest =>
          obtain ⟨rfl, HL2⟩ := hcut
          obtain ⟨w2, hw2⟩ : ∃ z, z = wc := ⟨_, rfl⟩
          subst hw2
          clear v1 v2
          obtain ⟨ad, e1, g1⟩ := HC1.out w2 HL2.out.b
          rw [← HT.out] at g1
          have fT := HL2.out.t.at_ (i := 0) rfl
          rw [e1] at fT
          have f4 : w2.cell? ⟨gd, p, none⟩ = some (.int .i64 q) := by
            have a := HL2.out.d.at_ (ints_get _ (show p < (lls s.1 P).length by rw [lls_length]; exact hp))
            rw [lls_get _ hp, ← HQ.out] at a; exact a
          have f5 := HL2.out.d.free p
          have HE1 := Aside0.mk e1; clear e1
          go_upto_region 15 with fail
          go_region
          go_wp2_with fail
          go_roundw
          case rel =>
            refine ⟨j + 1, lstep ts P s x, by go_num, by omega, by omega, ⟨?_⟩, HE2, ⟨fun k => ?_⟩⟩
            · show LM w.heap.size g gg gd A c ts (longOrd ts) P (upd s.1 (minK s.1 P) (rd ts x)) (s.2.set x.toNat (minK s.1 P)) w _
              rw [← HPM.out, ← HT.out]
              exact HL2.out.setD p (by rw [HQ.out])
            · have a := HB.out k
              have b := HB.out p
              have e := HMM.out
              show 0 ≤ upd s.1 (minK s.1 P) (rd ts x) k ∧ upd s.1 (minK s.1 P) (rd ts x) k ≤ (j + 1) * 1073741824
              rw [← HPM.out, ← HT.out]
              unfold upd
              split <;> omega
          case measure => show ts.length - (j + 1).toNat < ts.length - j.toNat; omega
    · have hs : s = lptF ts P (longOrd ts) := by
        have a := HE.out
        rw [show j.toNat = (longOrd ts).length by rw [HOL.out]; omega, List.drop_length] at a
        exact a
      have hmx := max_any wr gd (lls s.1 P) HLr.out.d (by rw [lls_length]; exact hP1) (by rw [lls_length]; omega)
      rw [lls_length] at hmx
      have HMX := Aside0.mk hmx
      have HSS := Aside0.mk hs
      clear hmx hs
      go_wp2_with ((with_reducible refine HMX.out.mono ?_); rintro e8 w8 ⟨rfl, rfl⟩)
      go_ret2
      refine ⟨HLr.out.b, gg, ?_, ?_, ?_⟩
      · rw [← HSS.out]; rfl
      · rw [← HSS.out]; exact HLr.out.v
      · rw [← HSS.out]; exact HLr.out.vl

end Go.Proofs.Ytnoocdobldchoaa
