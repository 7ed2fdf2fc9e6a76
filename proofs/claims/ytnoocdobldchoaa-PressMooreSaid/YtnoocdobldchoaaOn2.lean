/- What OnTime answers. -/
import Derived.Test.YtnoocdobldchoaaOn1
namespace Go.Proofs.Ytnoocdobldchoaa
open Go.RowKit Go.Proofs.YtnoocdobldchoaaW.PrintWords Go.Proofs.YtnoocdobldchoaaW.PrintMore Go.Proofs.YtnoocdobldchoaaW.PrintLast

theorem enter54 (args : Array Value) (W : World) : (callFunc 54 args).run Try.prog W = .ok (.enter 54 args) W := by kernel_rfl
set_option maxRecDepth 100000 in
set_option maxHeartbeats 2000000 in
theorem tcmp_any (w : World) (A : Option Addr) (c b : Nat) (ts : List (Int × Int)) (h : kP.C w A ts.length ts) (hb : w.cell? ⟨b, 0, none⟩ = some (.slice A ts.length c)) (x y : Int) (hx : 0 ≤ x ∧ x < ts.length) (hy : 0 ≤ y ∧ y < ts.length) :
    Calls Try.prog 54 #[.int .i64 x, .int .i64 y, .pointer (some ⟨b, 0, none⟩)] w fun e w' => e = .returned (.int .i64 (tcf ts x y)) ∧ Below w.heap.size w w' := by
  obtain ⟨ad, e1, _, g1⟩ := at_P h x hx.1 hx.2
  obtain ⟨ad2, e2, _, k1⟩ := at_P h y hy.1 hy.2
  subst e1
  cases e2
  clear h
  obtain ⟨hx1, hx2⟩ := hx
  obtain ⟨hy1, hy2⟩ := hy
  have HC : Aside0 (tcf ts x y = cmpI (rdP ts x).2 (rdP ts y).2) := ⟨rfl⟩
  obtain ⟨p, hp⟩ : ∃ z, z = (rdP ts x).2 := ⟨_, rfl⟩
  obtain ⟨q, hq⟩ : ∃ z, z = (rdP ts y).2 := ⟨_, rfl⟩
  rw [← hp] at g1
  rw [← hq] at k1
  have HPQ := Aside0.mk (And.intro hp hq)
  clear hp hq
  have hc := Aside0.mk (fun W => compare_any W p q)
  go_enter Try.func54, Try.ntmps54
  go_upto_region 1 with fail
  go_still_tail 10, (by kernel_rfl)
  change wpList _ _ _ _ _ w.drew
  go_wp2_with ((with_reducible refine (hc.out _).mono ?_); rintro e w' ⟨rfl, rfl⟩)
  go_ret
  exact ⟨ret_int (by rw [HC.out, HPQ.out.1, HPQ.out.2]), below_drew (Below.refl _ _)⟩
theorem tC {A : Option Addr} {c b g N : Nat} {ts : List (Int × Int)} (hA : 0 < ts.length → ∀ ad, A = some ad → ad.block < N) (hb : b < N) (hg : N ≤ g) : CmpC 54 b (fun W => N ≤ W.heap.size ∧ jI A c b ts W) (tcf ts) (fun x => 0 ≤ x ∧ x < ts.length) g where
  en := enter54
  calls := fun W x y hI hx hy => tcmp_any W A c b ts hI.2.1 hI.2.2 x y hx hy
  keep := fun W W' hI k => by
    refine ⟨Nat.le_trans hI.1 k.size, ?_, ?_⟩
    · exact Cp_kp hI.2.1 k (fun hp ad e => ⟨Nat.lt_of_lt_of_le (hA hp ad e) hI.1, fun h => by have := hA hp ad e; omega⟩)
    · exact k.cell hI.2.2 (fun h => by dsimp only at h; omega)
/-- Two rows of the call's own, apart. -/
structure Two (w : World) (base : Nat) (v u : Value) (d l : List Int) : Prop where
  fst : RI w base (fun _ => True) v d
  snd : RI w base (fun _ => True) u l
  apart : ∀ k, v.ownBlock = some k → u.ownBlock ≠ some k
theorem Two.swap {w : World} {base : Nat} {v u : Value} {d l : List Int} (h : Two w base v u d l) : Two w base u v l d := ⟨h.snd, h.fst, fun k hk e => h.apart k e hk⟩
theorem Two.next {w w1 : World} {base : Nat} {v v1 u : Value} {d d1 l : List Int} (h : Two w base v u d l) (h1 : RI w1 base (fun _ => True) v1 d1) (hg : w.grownBy w1 v.ownBlock) (hat : v1.ownBlock = v.ownBlock ∨ ∃ b, v1.ownBlock = some b ∧ w.heap.size ≤ b) : Two w1 base v1 u d1 l := by
  refine ⟨h1, RI_of ((RI_own h.snd).kept hg ?_) (fun _ _ => trivial), fun k hk e => ?_⟩
  · cases hu : u.ownBlock with
    | none => exact .inl rfl
    | some k => exact .inr (fun e => h.apart k e.symm hu)
  · rcases hat with h2 | ⟨b, h2, h3⟩
    · exact h.apart k (by rw [← h2]; exact hk) e
    · have := Kd.R_lt h.snd k e
      rw [hk] at h2
      cases h2
      omega
theorem Two.below {w w1 : World} {base : Nat} {v u : Value} {d l : List Int} (h : Two w base v u d l) (hb : Below w.heap.size w w1) : Two w1 base v u d l := ⟨Kd.R_below h.fst hb, Kd.R_below h.snd hb, h.apart⟩
theorem grown_below {w0 w w1 : World} {v : Value} {d : List Int} {N : Nat} (hb : Below N w0 w) (h : RI w N (fun _ => True) v d) (hg : w.grownBy w1 v.ownBlock) (hN : N ≤ w.heap.size) : Below N w0 w1 := by
  refine ⟨hg.os.trans hb.os, hg.tape.trans hb.tape, hg.output.trans hb.output, Nat.le_trans hb.size hg.size, fun k hk => ?_⟩
  refine (hg.block k (by omega) (fun e => ?_)).trans (hb.block k hk)
  have := Kd.R_base h k e.symm
  omega
theorem info3' : (Try.prog.info? 3).map (fun i => (i.zero, i.size, i.bytes)) = some (some (.int .i64 0), 1, 8) := by kernel_rfl
theorem dropN (o : List Int) (i : Nat) (h : i < o.length) : o.drop i = o.getD i 0 :: o.drop (i + 1) := by
  rw [List.drop_eq_getElem_cons h, List.getD_eq_getElem?_getD, List.getElem?_eq_getElem h]
  rfl
theorem rd_mem' {o : List Int} {i : Nat} (h : i < o.length) : rd o (i : Int) ∈ o := by
  unfold rd
  rw [Int.toNat_natCast, List.getD_eq_getElem?_getD, List.getElem?_eq_getElem h]
  exact List.getElem_mem _
theorem sumW_erase (ts : List (Int × Int)) (d : List Int) (i : Nat) (h : i < d.length) : sumW ts d = wk ts (d.getD i 0) + sumW ts (d.eraseIdx i) := by
  rw [← sumW_cons]
  exact (sumW_perm ts (eraseIdx_perm d i h)).symm
def OPost (ts : List (Int × Int)) (w : World) (e : Ending) (w' : World) : Prop :=
  ∃ (A B : Option Addr) (n m c d : Nat), e = .returned (.tuple #[.slice A n c, .slice B m d, .int .i64 (tasksE ts)]) ∧ Below w.heap.size w w' ∧ (Kd.int .i64).C w' A n (doneF ts) ∧ (Kd.int .i64).C w' B m (lateF ts) ∧ n ≤ c ∧ m ≤ d
theorem OPost.bad {ts : List (Int × Int)} {w w' : World} {e0 : Int} (h : tasksE ts = e0) (he : e0 ≠ 0) (hb : Below w.heap.size w w') : OPost ts w (.returned (.tuple #[.slice none 0 0, .slice none 0 0, .int .i64 e0])) w' := by
  refine ⟨none, none, 0, 0, 0, 0, by rw [h], hb, ?_, ?_, Nat.le_refl _, Nat.le_refl _⟩
  · unfold doneF; rw [if_neg (by rw [h]; exact he)]; exact nil_C _
  · unfold lateF; rw [if_neg (by rw [h]; exact he)]; exact nil_C _
def TOK (ts : List (Int × Int)) : Prop := ts.length ≤ 64 ∧ ∀ x : Int, 0 ≤ x → x < ts.length → (1 ≤ wk ts x ∧ wk ts x ≤ 1073741824) ∧ 0 ≤ du ts x ∧ du ts x ≤ 1073741824
theorem badT_iff (t : Int × Int) : badT t = false ↔ (1 ≤ t.1 ∧ t.1 ≤ 1073741824) ∧ 0 ≤ t.2 ∧ t.2 ≤ 1073741824 := by
  unfold badT okMin
  simp only [Bool.or_eq_false_iff, decide_eq_false_iff_not, Bool.not_eq_false', decide_eq_true_eq]
  omega
theorem TOK.of_E {ts : List (Int × Int)} (h : tasksE ts = 0) : TOK ts := by
  unfold tasksE at h
  by_cases h1 : 64 < ts.length
  · rw [if_pos h1] at h; omega
  rw [if_neg h1] at h
  by_cases h2 : ts.any badT = true
  · rw [if_pos h2] at h; omega
  refine ⟨by omega, fun x h0 hx => ?_⟩
  have hm : rdP ts x ∈ ts := by
    unfold rdP
    rw [List.getD_eq_getElem?_getD, List.getElem?_eq_getElem (show x.toNat < ts.length by omega)]
    exact List.getElem_mem _
  have hb : badT (rdP ts x) = false := by
    cases hc : badT (rdP ts x) with
    | false => rfl
    | true => exact absurd (List.any_eq_true.2 ⟨_, hm, hc⟩) h2
  exact (badT_iff _).1 hb

theorem sumW_nonneg {ts : List (Int × Int)} (hT : TOK ts) : ∀ {d : List Int}, (∀ x ∈ d, 0 ≤ x ∧ x < ts.length) → 0 ≤ sumW ts d
  | [], _ => by simp [sumW]
  | x :: d, h => by
    rw [sumW_cons]
    have h1 := h x List.mem_cons_self
    have h2 := (hT.2 x h1.1 h1.2).1
    have h3 := sumW_nonneg hT (d := d) (fun y hy => h y (List.mem_cons_of_mem _ hy))
    omega

set_option maxHeartbeats 2000000 in
theorem ontime_long (w : World) (A : Option Addr) (c : Nat) (ts : List (Int × Int)) (hlen : 64 < ts.length) : Calls Try.prog 28 #[.slice A ts.length c] w (OPost ts w) := by
  have B1 := Blk.new w [.slice A ts.length c] 40
  have hc1 := B1.at_ (i := 0) rfl
  have hb1 := Aside0.mk (below_alloc (Below.refl w.heap.size w) (.cells #[.slice A ts.length c] 40))
  clear B1
  have hd : decide ((64 : Int) < ts.length) = true := decide_eq_true (by omega)
  have HE : Aside0 (tasksE ts = 3) := ⟨by unfold tasksE; rw [if_pos hlen]⟩
  clear hlen
  go_enter Try.func28, Try.ntmps28
  go_wp2_with fail
  refine bodyPost_ret (v := .tuple #[.slice none 0 0, .slice none 0 0, .int .i64 3]) (by simp [results, Try.results28, go_sem]) rfl ?_
  exact OPost.bad HE.out (by decide) hb1.out

set_option maxRecDepth 100000 in
set_option maxHeartbeats 8000000 in
theorem ontime_short (w : World) (A : Option Addr) (c : Nat) (ts : List (Int × Int)) (h : kP.C w A ts.length ts) (hlen : ts.length ≤ 64) : Calls Try.prog 28 #[.slice A ts.length c] w (OPost ts w) := by
  have ra := Cp_lt h
  have B1 := Blk.new w [.slice A ts.length c] 40
  have hc1 := B1.at_ (i := 0) rfl
  have hb1 := below_alloc (Below.refl w.heap.size w) (.cells #[.slice A ts.length c] 40)
  obtain ⟨w1, hw1⟩ : ∃ z, z = w.alloc (.cells #[.slice A ts.length c] 40) := ⟨_, rfl⟩
  have Q1 := Aside0.mk (show Blk w1 w.heap.size [.slice A ts.length c] 40 ∧ Below w.heap.size w w1 by rw [hw1]; exact ⟨B1, hb1⟩)
  have HW1 := Aside0.mk hw1
  have HR := Aside0.mk h; clear h
  have RA := Aside0.mk ra; clear ra
  clear B1 hb1 hw1
  have hd : decide ((64 : Int) < ts.length) = false := decide_eq_false (by omega)
  obtain ⟨e0, he0⟩ : ∃ z, z = tasksE ts := ⟨_, rfl⟩
  have HE2 : Aside0 (e0 = if ts.any badT = true then 2 else 0) := ⟨by rw [he0]; unfold tasksE; rw [if_neg (by omega)]⟩
  have HE := Aside0.mk he0; clear he0
  have hm := Aside0.mk (fun W => minutes_any W)
  go_enter Try.func28, Try.ntmps28
  go_upto_region 4 with fail
  clear hc1 hd
  rw [← HW1.out]
  clear HW1
  go_loopw [22] (fun v wr => ∃ i : Int, v = .int .i64 i ∧ 0 ≤ i ∧ i ≤ ts.length ∧ Aside0 ((ts.drop i.toNat).any badT = ts.any badT) ∧ Aside0 (Blk wr w.heap.size [.slice A ts.length c] 40 ∧ Below w.heap.size w wr)) (fun v _ => ts.length - (intOf v).toNat)
  case atStart => exact ⟨0, rfl, by omega, by omega, ⟨rfl⟩, Q1⟩
  case round =>
    clear Q1
    obtain ⟨i, rfl, h0, h1, he, hb⟩ := hrel
    by_cases hlt : i < ts.length
    · obtain ⟨ad, e1, g1, g2⟩ := at_P (Kd.C_below HR.out hb.out.2) i h0 hlt
      subst e1
      have h2 := he.out
      rw [dropP ts (0, 0) i h0 hlt, List.any_cons] at h2
      obtain ⟨x, hx⟩ : ∃ z, z = (rdP ts i).1 := ⟨_, rfl⟩
      obtain ⟨y, hy⟩ : ∃ z, z = (rdP ts i).2 := ⟨_, rfl⟩
      have hbd : badT (ts.getD i.toNat (0, 0)) = (decide (x < 1) || (decide (1073741824 < x) || !okMin y)) := by rw [hx, hy]; rfl
      rw [← hx] at g1; rw [← hy] at g2
      rw [hbd] at h2
      have H2 := Aside0.mk h2; clear h2 hx hy hbd he
      cases hox : decide (x < 1) with
      | true =>
        have hE : e0 = 2 := by
          have := H2.out
          rw [hox] at this
          rw [HE2.out, ← this]; rfl
        subst hE
        go_wp2_with fail
        refine bodyPost_ret (v := .tuple #[.slice none 0 0, .slice none 0 0, .int .i64 2]) (by simp [results, Try.results28, go_sem]) rfl ?_
        exact OPost.bad HE.out.symm (by decide) (below_alloc hb.out.2 _)
      | false =>
        cases hoz : decide (1073741824 < x) with
        | true =>
          have hE : e0 = 2 := by
            have := H2.out
            rw [hoz] at this
            rw [HE2.out, ← this]; simp
          subst hE
          go_wp2_with fail
          refine bodyPost_ret (v := .tuple #[.slice none 0 0, .slice none 0 0, .int .i64 2]) (by simp [results, Try.results28, go_sem]) rfl ?_
          exact OPost.bad HE.out.symm (by decide) (below_alloc hb.out.2 _)
        | false =>
          cases hoy : okMin y with
          | false =>
            have hE : e0 = 2 := by
              have := H2.out
              rw [hoy] at this
              rw [HE2.out, ← this]; simp
            subst hE
            have HY := Aside0.mk hoy; clear hoy
            go_wp2_with ((with_reducible refine (hm.out _ _).mono ?_); rintro e w' ⟨rfl, rfl⟩; rw [HY.out])
            refine bodyPost_ret (v := .tuple #[.slice none 0 0, .slice none 0 0, .int .i64 2]) (by simp [results, Try.results28, go_sem]) rfl ?_
            exact OPost.bad HE.out.symm (by decide) (below_alloc hb.out.2 _)
          | true =>
            have hE : (ts.drop (i + 1).toNat).any badT = ts.any badT := by
              have := H2.out
              rw [hox, hoz, hoy] at this
              rw [← this]; rfl
            have HF := Aside0.mk hE; clear hE
            have HY := Aside0.mk hoy; clear hoy
            go_wp2_with ((with_reducible refine (hm.out _ _).mono ?_); rintro e w' ⟨rfl, rfl⟩; rw [HY.out])
            go_roundw
            case rel => exact ⟨i + 1, by go_num, by omega, by omega, HF, ⟨hb.out.1.alloc _, below_alloc hb.out.2 _⟩⟩
            case measure => simp [intOf]; omega
    · have hE : e0 = 0 := by
        have := he.out
        rw [show i.toNat = ts.length by omega, List.drop_length] at this
        rw [HE2.out, ← this]; rfl
      subst hE
      have HT := Aside0.mk (TOK.of_E HE.out.symm)
      have hil : i = ts.length := by omega
      subst hil
      obtain ⟨w5, hw5⟩ : ∃ z, z = wr := ⟨_, rfl⟩
      subst hw5
      have hc1 := hb.out.1.at_ (i := 0) rfl
      have HB := hb
      have hris := Aside0.mk (rising_any w5 ts.length (by omega))
      clear he HE2 hm hb hlt
      go_upto_region 10 with ((with_reducible refine hris.out.mono ?_); rintro e6 w6 ⟨g, rfl, hg0, hb6, hg6⟩; have HB6 := Aside0.mk (And.intro hg0 (And.intro hb6 hg6)); clear hg0 hb6 hg6)
      obtain ⟨hg0, hb6, hg6⟩ := HB6.out
      clear hc1 hris
      have q6 := HB.out.1.below hb6
      have hq5 := HB.out.1.lt
      have hb6w := hb6.mono (Nat.le_of_lt hq5)
      have hI : (w5.heap.size ≤ w6.heap.size) ∧ jI A c w.heap.size ts w6 := ⟨hb6.size, Kd.C_below HR.out (HB.out.2.trans hb6w), q6.at_ (i := 0) rfl⟩
      have hC := tC (A := A) (c := c) (b := w.heap.size) (g := g) (N := w5.heap.size) (ts := ts) (fun hp ad e => Nat.lt_trans (RA.out hp ad e) hq5) hq5 hg0
      have hcall := sorts64 (tcf_law ts) hlen w6 (fun x hx => (upto_mem _ x).1 hx) hg6 hI hC
      rw [upto_length] at hcall
      have HB7 := Aside0.mk (And.intro (HB.out.2.trans hb6w) (And.intro q6 (show w.heap.size < g by omega)))
      have HC := Aside0.mk hcall
      clear hcall hC hI hg6 hb6 hg0 HB6 hq5 hb6w q6 HB
      go_upto_region 14 with ((with_reducible refine HC.out.mono ?_); rintro e7 w7 ⟨rfl, hk7, hg7⟩; have HK7 := Aside0.mk (And.intro hk7 hg7); clear hk7 hg7)
      clear HC
      obtain ⟨hk7, hg7⟩ := HK7.out
      have hb8 : Below w.heap.size w w7 := ((Kp.of_below HB7.out.1 : Kp (fun i => i = g) w w6).step hk7).below_of (fun i hi => by have := HB7.out.2.2; omega)
      have q7 := HB7.out.2.1.kp hk7 (by have := HB7.out.2.2; omega)
      have hol : (tord ts).length = ts.length := tord_length ts
      have hg7' : Blk w7 g (ints (tord ts)) 3 := hg7
      have hmem : ∀ x ∈ tord ts, 0 ≤ x ∧ x < ts.length := fun x hx => tord_mem hx
      obtain ⟨o, ho⟩ : ∃ z, z = tord ts := ⟨_, rfl⟩
      rw [← ho] at hol hg7' hmem
      have HO := Aside0.mk (And.intro ho (And.intro hol hmem))
      have HG := Aside0.mk (fun W (hW : Below w7.heap.size w7 W) => And.intro ((q7.below hW).at_ (i := 0) rfl) (And.intro (Kd.C_below HR.out (hb8.trans (hW.mono hb8.size))) (hg7'.below hW)))
      have HB8 := Aside0.mk hb8
      clear hk7 hg7 hb8 q7 hol hg7' hmem ho HK7 HB7 HR RA h0 h1
      go_loopw [8, 9, 10, 49] (fun v8 v9 v10 v49 wr => ∃ (d l : List Int) (i : Nat) (s : Int), v10 = .int .i64 s ∧ v49 = .int .i64 i ∧ i ≤ ts.length ∧ d.length ≤ i ∧ l.length ≤ i ∧ 0 ≤ s ∧ s ≤ (i : Int) * 1073741824 ∧ Aside0 (s = sumW ts d ∧ (∀ x ∈ d, 0 ≤ x ∧ x < ts.length) ∧ (o.drop i).foldl (mhStep ts) (d, l) = mh ts o) ∧ Aside0 (Two wr w7.heap.size v8 v9 d l ∧ Below w7.heap.size w7 wr)) (fun _ _ _ v _ => ts.length - (intOf v).toNat)
      case atStart => exact ⟨[], [], 0, 0, rfl, rfl, by omega, by simp, by simp, by omega, by omega, ⟨rfl, by simp, rfl⟩, ⟨⟨Kd.R_nil _ _ _ _ _, Kd.R_nil _ _ _ _ _, fun k hk => by simp [Value.ownBlock] at hk⟩, Below.refl _ _⟩⟩
      case round =>
        obtain ⟨d, l, i, s, rfl, rfl, hi, hdl, hll, hs0, hs1, HS, H2⟩ := hrel
        by_cases hlt : i < ts.length
        · have hlti : (i : Int) < ts.length := by omega
          obtain ⟨_, _, k3⟩ := HG.out _ H2.out.2
          have hio : i < o.length := by rw [HO.out.2.1]; exact hlt
          have g1 := k3.at_ (ints_get o hio)
          have hxr : 0 ≤ o.getD i 0 ∧ o.getD i 0 < ts.length := HO.out.2.2 _ (by rw [List.getD_eq_getElem?_getD, List.getElem?_eq_getElem hio]; exact List.getElem_mem _)
          have hfo := HS.out.2.2
          rw [dropN o i hio, List.foldl_cons] at hfo
          obtain ⟨x, hx⟩ : ∃ z, z = o.getD i 0 := ⟨_, rfl⟩
          rw [← hx] at g1 hxr hfo
          obtain ⟨hx0, hx1⟩ := hxr
          have HFO := Aside0.mk hfo
          obtain ⟨d', hd'⟩ : ∃ z, z = d ++ [x] := ⟨_, rfl⟩
          have hdl' : d'.length ≤ i + 1 ∧ 0 < d'.length := by rw [hd', List.length_append, List.length_singleton]; omega
          obtain ⟨hdl1, hdl0⟩ := hdl'
          have HD' := Aside0.mk hd'
          clear hfo hx hio k3 hd'
          go_upto_region 17 with ((with_reducible refine gate_builtin (b := .append) (xs := #[.tmp 53, .tmp 55]) rfl ?_); at_builtin; refine Kd.R_append (Kd.int .i64) (w0 := w7) w7.heap.size rfl (.tmp 53) (.tmp 55) 22 3 (.int .i64 0) 8 rfl Try.underlying22 info3' rfl (by decide) (by omega) u8 d x [.int .i64 x] (fun _ => True) (fun _ => False) rfl rfl ?aP (fun _ hk => hk.elim) ?aF ?aO ?aB ?aS ?aL ?_; (case aP => exact rfl); (case aB => exact H2.out.2); (case aF => exact (fun _ _ => trivial)); (case aO => exact H2.out.1.fst); (case aS => exact (below_size H2.out.2)); (case aL => omega); intro va w9 ho hb hg hat; rw [← HD'.out] at ho; have H9 := Aside0.mk (And.intro (H2.out.1.next ho hg hat) hb); clear ho hb hg hat)
          clear g1
          obtain ⟨c1, c2, _⟩ := HG.out _ H9.out.2
          obtain ⟨ad, e1, k1, k2⟩ := at_P c2 x hx0 hx1
          subst e1
          obtain ⟨A8, c8, e8⟩ := Kd.R_slice H9.out.1.fst
          subst e8
          have htk := HT.out.2 x hx0 hx1
          have hsd : sumW ts d' = s + wk ts x := by rw [HD'.out, sumW_append, HS.out.1]; simp [sumW]
          have hrd : ∀ z ∈ d', 0 ≤ z ∧ z < ts.length := fun z hz => by
            rw [HD'.out] at hz
            rcases List.mem_append.1 hz with h | h
            · exact HS.out.2.1 z h
            · rw [List.mem_singleton.1 h]; exact ⟨hx0, hx1⟩
          have hms : mhStep ts (d, l) x = if sumW ts d' ≤ du ts x then (d', l) else (d'.eraseIdx (worst ts d'), l ++ [d'.getD (worst ts d') 0]) := by
            rw [HD'.out]; rfl
          unfold wk at htk hsd
          unfold du at htk hms
          obtain ⟨p, hp⟩ : ∃ z, z = (rdP ts x).1 := ⟨_, rfl⟩
          obtain ⟨q, hq⟩ : ∃ z, z = (rdP ts x).2 := ⟨_, rfl⟩
          rw [← hp] at k1 hsd htk
          rw [← hq] at k2 hms htk
          obtain ⟨⟨hp0, hp1⟩, hq0, hq1⟩ := htk
          rw [hsd] at hms
          have HSD := Aside0.mk (And.intro hsd (And.intro hrd hms))
          clear hsd hrd hms hp hq c2
          by_cases hle : s + p ≤ q
          · have hdc : decide (s + p ≤ q) = true := decide_eq_true hle
            have HF2 : Aside0 ((o.drop (i + 1)).foldl (mhStep ts) (d', l) = mh ts o) := ⟨by
              have := HFO.out
              rw [HSD.out.2.2, if_pos hle] at this
              exact this⟩
            clear hle
            go_wp2_with fail
            go_roundw
            case rel => exact ⟨d', l, i + 1, s + p, rfl, by go_num, by omega, by omega, by omega, by omega, by omega, ⟨HSD.out.1.symm, HSD.out.2.1, HF2.out⟩, H9⟩
            case measure => show ts.length - ((i : Int) + 1).toNat < ts.length - (i : Int).toNat; omega
          · have hdc : decide (s + p ≤ q) = false := decide_eq_false hle
            have HF2 : Aside0 ((o.drop (i + 1)).foldl (mhStep ts) (d'.eraseIdx (worst ts d'), l ++ [d'.getD (worst ts d') 0]) = mh ts o) := ⟨by
              have := HFO.out
              rw [HSD.out.2.2, if_neg hle] at this
              exact this⟩
            clear hle
            go_upto_region 21 with fail
            clear hdc k1 k2 c1
            go_loopw [13, 73] (fun v13 v73 wq => ∃ (at' k : Nat), v13 = .int .i64 at' ∧ v73 = .int .i64 k ∧ k ≤ d'.length ∧ at' < d'.length ∧ Aside0 (at' = worstN ts d' k) ∧ Aside0 (Below w9.heap.size w9 wq)) (fun _ v _ => d'.length - (intOf v).toNat)
            case atStart => exact ⟨0, 0, rfl, rfl, by omega, by omega, ⟨rfl⟩, ⟨Below.refl _ _⟩⟩
            case round =>
              obtain ⟨at', k, rfl, rfl, hk, hat, HAT, HQ⟩ := hrel
              obtain ⟨c1, c2, _⟩ := HG.out _ (H9.out.2.trans (HQ.out.mono (below_size H9.out.2)))
              have hC8 := Kd.C_below (Kd.R_reads' H9.out.1.fst).2.2 HQ.out
              by_cases hkl : k < d'.length
              · have hkli : (k : Int) < d'.length := by omega
                have hatli : (at' : Int) < d'.length := by omega
                obtain ⟨ad2, e2, f1⟩ := Kd.at_int hC8 (k : Int) (by omega) hkli
                obtain ⟨_, e3, f2⟩ := Kd.at_int hC8 (at' : Int) (by omega) hatli
                subst e2
                cases e3
                have hr1 := HSD.out.2.1 (rd d' k) (rd_mem' hkl)
                have hr2 := HSD.out.2.1 (rd d' at') (rd_mem' hat)
                have hwn : worstN ts d' (k + 1) = if wk ts (rd d' at') ≤ wk ts (rd d' k) then k else at' := by
                  unfold worstN
                  rw [← HAT.out]
                  rfl
                obtain ⟨y, hy⟩ : ∃ z, z = rd d' k := ⟨_, rfl⟩
                obtain ⟨z, hz⟩ : ∃ z, z = rd d' at' := ⟨_, rfl⟩
                rw [← hy] at f1 hr1 hwn
                rw [← hz] at f2 hr2 hwn
                rw [Int.toNat_natCast] at f1 f2
                obtain ⟨hy0, hy1⟩ := hr1
                obtain ⟨hz0, hz1⟩ := hr2
                obtain ⟨_, e4, k1, _⟩ := at_P c2 y hy0 hy1
                obtain ⟨_, e5, k2, _⟩ := at_P c2 z hz0 hz1
                cases e4
                cases e5
                unfold wk at hwn
                obtain ⟨y1, hy2⟩ : ∃ u, u = (rdP ts y).1 := ⟨_, rfl⟩
                obtain ⟨z1, hz2⟩ : ∃ u, u = (rdP ts z).1 := ⟨_, rfl⟩
                rw [← hy2] at k1 hwn
                rw [← hz2] at k2 hwn
                have HWN := Aside0.mk hwn
                clear hwn hy hz hy2 hz2 c2 hC8
                go_upto_region 23 with fail
                by_cases hge : z1 ≤ y1
                · have hdg : decide (z1 ≤ y1) = true := decide_eq_true hge
                  have HN : Aside0 (k = worstN ts d' (k + 1)) := ⟨by rw [HWN.out, if_pos hge]⟩
                  clear hge
                  go_quiet (fail)
                  go_wp2_with fail
                  go_roundw
                  case rel => exact ⟨k, k + 1, rfl, by go_num, by omega, by omega, HN, ⟨below_step HQ.out (bdN _ _)⟩⟩
                  case measure => show d'.length - ((k : Int) + 1).toNat < d'.length - (k : Int).toNat; omega
                · have hdg : decide (z1 ≤ y1) = false := decide_eq_false hge
                  have HN : Aside0 (at' = worstN ts d' (k + 1)) := ⟨by rw [HWN.out, if_neg hge]⟩
                  clear hge
                  go_quiet (fail)
                  go_wp2_with fail
                  go_roundw
                  case rel => exact ⟨at', k + 1, rfl, by go_num, by omega, by omega, HN, ⟨below_step HQ.out (bdN _ _)⟩⟩
                  case measure => show d'.length - ((k : Int) + 1).toNat < d'.length - (k : Int).toNat; omega
              · have hatli : (at' : Int) < d'.length := by omega
                have hkn : ¬ (k : Int) < d'.length := by omega
                have HW : Aside0 (at' = worst ts d') := ⟨by rw [HAT.out, show k = d'.length by omega]; rfl⟩
                obtain ⟨ad2, e3, f2⟩ := Kd.at_int hC8 (at' : Int) (by omega) hatli
                subst e3
                have hr2 := HSD.out.2.1 (rd d' at') (rd_mem' hat)
                have hsw := sumW_erase ts d' at' hat
                obtain ⟨z, hz⟩ : ∃ z, z = rd d' at' := ⟨_, rfl⟩
                rw [show d'.getD at' 0 = rd d' at' from rfl] at hsw
                rw [← hz] at f2 hr2 hsw
                rw [Int.toNat_natCast] at f2
                obtain ⟨hz0, hz1⟩ := hr2
                obtain ⟨_, e5, k2, _⟩ := at_P c2 z hz0 hz1
                cases e5
                have htz := (HT.out.2 z hz0 hz1).1
                unfold wk at htz hsw
                obtain ⟨z1, hz2⟩ : ∃ u, u = (rdP ts z).1 := ⟨_, rfl⟩
                rw [← hz2] at k2 htz hsw
                obtain ⟨hz3, hz4⟩ := htz
                rw [HSD.out.1] at hsw
                have HSW := Aside0.mk (And.intro hsw hz)
                have hpos : 0 ≤ sumW ts (d'.eraseIdx at') := sumW_nonneg HT.out (fun u hu => HSD.out.2.1 u (List.mem_of_mem_eraseIdx hu))
                have hs2 : 0 ≤ s + p - z1 := by omega
                have HTQ := Aside0.mk (And.intro (H9.out.1.below HQ.out) (H9.out.2.trans (HQ.out.mono (below_size H9.out.2))))
                obtain ⟨l', hl'⟩ : ∃ u, u = l ++ [z] := ⟨_, rfl⟩
                have hll' : l'.length ≤ i + 1 := by rw [hl', List.length_append, List.length_singleton]; omega
                have HL := Aside0.mk hl'
                clear hsw hz hz2 c2 hC8 hpos hkl hl'
                go_upto_region 29 with ((with_reducible refine gate_builtin (b := .append) (xs := #[.tmp 105, .tmp 107]) rfl ?_); at_builtin; refine Kd.R_append (Kd.int .i64) (w0 := w7) w7.heap.size rfl (.tmp 105) (.tmp 107) 22 3 (.int .i64 0) 8 rfl Try.underlying22 info3' rfl (by decide) (by omega) u9 l z [.int .i64 z] (fun _ => True) (fun _ => False) rfl rfl ?aP (fun _ hk => hk.elim) ?aF ?aO ?aB ?aS ?aL ?_; (case aP => exact rfl); (case aB => exact HTQ.out.2); (case aF => exact (fun _ _ => trivial)); (case aO => exact HTQ.out.1.snd); (case aS => exact (below_size HTQ.out.2)); (case aL => omega); intro vb wb ho hb hg hatt; rw [← HL.out] at ho; have H10 := Aside0.mk (And.intro ((HTQ.out.1.swap.next ho hg hatt).swap) hb); clear ho hb hg hatt)
                have hdel := Aside0.mk (del_any H10.out.1.fst at' hat)
                clear c1 k2 f2
                go_wp2_with ((with_reducible refine hdel.out.mono ?_); rintro e wd ⟨vd, rfl, hvb, hRI, hgr⟩; have H11 := Aside0.mk (And.intro (H10.out.1.next hRI hgr (.inl hvb)) (grown_below H10.out.2 H10.out.1.fst hgr (below_size H10.out.2))); clear hvb hRI hgr)
                have hel : (d'.eraseIdx at').length ≤ i + 1 := by rw [List.length_eraseIdx, if_pos hat]; omega
                go_roundw
                case rel => exact ⟨d'.eraseIdx at', l', i + 1, s + p - z1, by go_num, by go_num, by omega, hel, hll', hs2, by omega, ⟨by have := HSW.out.1; omega, fun u hu => HSD.out.2.1 u (List.mem_of_mem_eraseIdx hu), by have := HF2.out; rw [← HW.out] at this; rw [HL.out, HSW.out.2]; exact this⟩, H11⟩
                case measure => show ts.length - ((i : Int) + 1).toNat < ts.length - (i : Int).toNat; omega
        · have hlti : ¬ (i : Int) < ts.length := by omega
          have HD : Aside0 ((d, l) = mh ts (tord ts)) := ⟨by
            have := HS.out.2.2
            rw [List.drop_eq_nil_of_le (by rw [HO.out.2.1]; omega)] at this
            rw [← HO.out.1]
            exact this⟩
          have hso := Aside0.mk (sort_any H2.out.1.snd (by omega))
          obtain ⟨A8, c8, e8⟩ := Kd.R_slice H2.out.1.fst
          subst e8
          obtain ⟨A9, c9, e9⟩ := Kd.R_slice H2.out.1.snd
          subst e9
          go_wp2_with ((with_reducible refine hso.out.mono ?_); rintro e wd ⟨rfl, hRI, hgr⟩; have H11 := Aside0.mk (And.intro ((H2.out.1.swap.next hRI hgr (.inl rfl)).swap) (grown_below H2.out.2 H2.out.1.snd hgr (below_size H2.out.2))); clear hRI hgr)
          refine bodyPost_ret (v := .tuple #[.slice A8 d.length c8, .slice A9 l.length c9, .int .i64 0]) (by simp [results, Try.results28, go_sem]) rfl ?_
          have hz := HE.out.symm
          refine ⟨A8, A9, d.length, l.length, c8, c9, by rw [hz], HB8.out.trans (H11.out.2.mono (below_size HB8.out)), ?_, ?_, (Kd.R_reads' H11.out.1.fst).2.1, (Kd.R_reads' H11.out.1.snd).2.1⟩
          · unfold doneF
            rw [if_pos hz, ← HD.out]
            exact (Kd.R_reads' H11.out.1.fst).2.2
          · unfold lateF
            rw [if_pos hz, ← sort_late, ← HD.out]
            have t := Kd.R_reads' H11.out.1.snd
            have t2 := t.2.2
            rw [← t.1] at t2
            exact t2
theorem ontime_any (w : World) (A : Option Addr) (c : Nat) (ts : List (Int × Int)) (h : kP.C w A ts.length ts) : Calls Try.prog 28 #[.slice A ts.length c] w (OPost ts w) := by
  by_cases hlen : 64 < ts.length
  · exact ontime_long w A c ts hlen
  · exact ontime_short w A c ts h (by omega)
end Go.Proofs.Ytnoocdobldchoaa
