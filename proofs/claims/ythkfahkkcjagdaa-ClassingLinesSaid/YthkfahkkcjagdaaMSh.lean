/- ClassingShuffled: fleeces in another order, the plain law. -/
import Derived.Test.YthkfahkkcjagdaaE1
import Derived.Test.YthkfahkkcjagdaaE3
import Derived.Test.YthkfahkkcjagdaaMV
import Derived.Test.YthkfahkkcjagdaaE4
namespace Go.Proofs.Ythkfahkkcjagdaa

section
variable {s t : Nat → Fl} {n : Nat} (hst : ∀ i, i < n → s i = t i)
include hst
theorem massD_cg (i : Nat) : ∀ d, i + d ≤ n → massD s i d = massD t i d
  | 0, _ => rfl
  | d + 1, h => by
    unfold massD
    rw [massD_cg i d (by omega), hst _ (by omega)]
theorem costD_cg (i : Nat) (m : Int) : ∀ d, i + d ≤ n → costD s i m d = costD t i m d
  | 0, _ => rfl
  | d + 1, h => by
    unfold costD
    rw [costD_cg i m d (by omega), hst _ (by omega)]
theorem okR_cg (p : Int) (i : Nat) : ∀ d, i + d ≤ n → okR s p i d = okR t p i d
  | 0, _ => rfl
  | d + 1, h => by
    unfold okR
    rw [okR_cg p i d (by omega), hst i (by omega), hst (i + d) (by omega)]
theorem medF_cg (i : Nat) (M : Int) : ∀ k c, i + c + k ≤ n → medF s i M k c = medF t i M k c
  | 0, _, _ => rfl
  | k + 1, c, h => by
    unfold medF
    rw [massD_cg hst i (c + 1) (by omega), medF_cg i M k (c + 1) (by omega)]
theorem med_cg {i d : Nat} (h : i + d ≤ n) : med s i d = med t i d := by
  unfold med
  rw [massD_cg hst i d h, medF_cg hst i _ d 0 (by omega)]
theorem cen_cg (hs : SOK s n) {i d : Nat} (hd : 0 < d) (h : i + d ≤ n) : cen s i d = cen t i d := by
  have h1 := (med_spec hs hd h).2.2
  unfold cen
  rw [← med_cg hst h, hst _ (by omega)]
theorem cO_cg (hs : SOK s n) (least p : Int) {i d : Nat} (hd : 0 < d) (h : i + d ≤ n) : cO s least p i d = cO t least p i d := by
  unfold cO
  rw [okR_cg hst p i d h, massD_cg hst i d h, cen_cg hst hs hd h, costD_cg hst i _ d h]
omit hst in
theorem minO_cg {f g : Nat → Option Int} : ∀ m, (∀ d, d < m → f d = g d) → minO f m = minO g m
  | 0, _ => rfl
  | m + 1, h => by
    unfold minO
    rw [minO_cg m (fun d hd => h d (by omega)), h m (by omega)]
theorem restO_cg (hs : SOK s n) (least p : Int) : ∀ k i, restO s least p n k i = restO t least p n k i
  | 0, _ => rfl
  | k + 1, i => by
    unfold restO
    refine minO_cg _ fun d hd => ?_
    rw [cO_cg hst hs least p (by omega) (by omega), restO_cg hs least p k]
theorem bestF_cg (hs : SOK s n) (least p : Int) : bestF s least p n = bestF t least p n := by
  funext m
  unfold bestF
  rw [restO_cg hst hs]
theorem bestK_cg (hs : SOK s n) (least p : Int) (most : Nat) : bestK s least p n most = bestK t least p n most := by
  unfold bestK
  rw [bestF_cg hst hs]
omit hst in
theorem fdF_cg {P Q : Nat → Bool} : ∀ k d, (∀ e, e < d + k → P e = Q e) → fdF P k d = fdF Q k d
  | 0, _, _ => rfl
  | k + 1, d, h => by
    unfold fdF
    rw [h d (by omega), fdF_cg k (d + 1) (fun e he => h e (by omega))]
theorem cutD_cg (hs : SOK s n) (least p : Int) (k i : Nat) : cutD s least p n k i = cutD t least p n k i := by
  unfold cutD
  refine fdF_cg _ _ fun e he => ?_
  unfold isD
  rw [cO_cg hst hs least p (by omega) (by omega), restO_cg hst hs, restO_cg hst hs]
theorem planF_cg (hs : SOK s n) (least p : Int) : ∀ k i, planF s least p n k i = planF t least p n k i
  | 0, _ => rfl
  | k + 1, i => by
    unfold planF
    rw [cutD_cg hst hs, planF_cg hs least p k]
theorem SOK_cg (hs : SOK s n) : SOK t n := fun k hk => by rw [← hst k hk]; exact hs k hk
end

/-- The fleeces in their order. -/
def sL (fs : List Fl) : List Fl := (ordF fs).map (rdF fs)
theorem sL_length (fs : List Fl) : (sL fs).length = fs.length := by rw [sL, List.length_map, ordF_length]
theorem sL_get (fs : List Fl) {i : Nat} (h : i < fs.length) : sF fs (ordF fs) i = (sL fs).getD i fl0 := by
  have h1 : i < (ordF fs).length := by rw [ordF_length]; exact h
  unfold sF sL
  rw [List.getD_eq_getElem?_getD, List.getD_eq_getElem?_getD, List.getElem?_map, List.getElem?_eq_getElem h1]
  rfl
theorem sL_perm (fs : List Fl) : (sL fs).Perm fs := by
  have h1 := (ordF_perm fs).map (rdF fs)
  have h2 : (upto fs.length).map (rdF fs) = fs := by
    refine List.ext_getElem? fun j => ?_
    unfold upto
    rw [List.getElem?_map, List.getElem?_map]
    rcases Nat.lt_or_ge j fs.length with h | h
    · rw [List.getElem?_range h, List.getElem?_eq_getElem h]
      show some (rdF fs (j : Int)) = _
      unfold rdF
      rw [Int.toNat_natCast, List.getD_eq_getElem?_getD, List.getElem?_eq_getElem h]
      rfl
    · rw [List.getElem?_eq_none (by simpa using h), List.getElem?_eq_none h]
      rfl
  rw [h2] at h1
  exact h1
theorem sL_sorted {fs : List Fl} (h : KOK fs) : (sL fs).Pairwise (fun a b => fcmp a b ≤ 0) := by
  have hpw := srt_ahd (fcf_law h) (upto fs.length) (upto_pw _)
  unfold sL ordF
  rw [List.pairwise_map]
  refine hpw.imp fun {a b} hab => ?_
  rcases hab with h1 | h1
  · exact Int.le_of_lt h1
  · exact Int.le_of_eq h1.1
/-- Equal kinds and diameters have equal masses. -/
def EQM (fs : List Fl) : Prop := ∀ a ∈ fs, ∀ b ∈ fs, sameK a b = true → a.mic = b.mic → a.gr = b.gr
theorem sL_eq {fs gs : List Fl} (h : KOK fs) (hp : gs.Perm fs) (he : EQM fs) : sL fs = sL gs := by
  have hg : KOK gs := fun f hf => h f (hp.mem_iff.1 hf)
  refine List.Perm.eq_of_pairwise (le := fun a b => fcmp a b ≤ 0) (fun a b ha hb h1 h2 => ?_) (sL_sorted h) (sL_sorted hg) ((sL_perm fs).trans (hp.symm.trans (sL_perm gs).symm))
  have ha' := (sL_perm fs).mem_iff.1 ha
  have hb' := hp.mem_iff.1 ((sL_perm gs).mem_iff.1 hb)
  have ka := h a ha'
  have kb := h b hb'
  rw [fcmp_key ka kb] at h1
  rw [fcmp_key kb ka] at h2
  have hk : keyK a = keyK b ∧ a.mic = b.mic := by
    unfold cmpI at h1 h2
    (repeat' split at h1) <;> (repeat' split at h2) <;> omega
  have hs := (sameK_key ka kb).2 hk.1
  have hgr := he a ha' b hb' hs hk.2
  unfold sameK at hs
  rw [decide_eq_true_eq] at hs
  obtain ⟨a0, a1, a2, a3, a4, a5⟩ := a
  obtain ⟨b0, b1, b2, b3, b4, b5⟩ := b
  obtain ⟨h5, h6, h7, h8⟩ := hs
  have h9 := hk.2
  dsimp only at h5 h6 h7 h8 h9 hgr
  rw [h5, h6, h7, h8, h9, hgr]
theorem sF_eq {fs gs : List Fl} (h : KOK fs) (hp : gs.Perm fs) (he : EQM fs) : ∀ i, i < fs.length → sF fs (ordF fs) i = sF gs (ordF gs) i := fun i hi => by
  rw [sL_get fs hi, sL_get gs (by rw [hp.length_eq]; exact hi), sL_eq h hp he]
theorem errE_perm {fs gs : List Fl} (hp : gs.Perm fs) (l least p : Int) : errE gs l least p = errE fs l least p := by
  have h1 : gs.all flOK = fs.all flOK := by
    rw [Bool.eq_iff_iff, List.all_eq_true, List.all_eq_true]
    exact ⟨fun h x hx => h x (hp.mem_iff.2 hx), fun h x hx => h x (hp.mem_iff.1 hx)⟩
  unfold errE
  rw [hp.length_eq, h1]
/-- What the other list is, after so many fleeces. -/
def insL (k : Nat) (x : Fl) (L : List Fl) : List Fl := L.take k ++ x :: L.drop k
theorem insL_perm (k : Nat) (x : Fl) (L : List Fl) : (insL k x L).Perm (x :: L) := by
  unfold insL
  refine List.perm_middle.trans ?_
  rw [List.take_append_drop]
theorem insL_length (k : Nat) (x : Fl) (L : List Fl) : (insL k x L).length = L.length + 1 := by rw [(insL_perm k x L).length_eq]; rfl
theorem ins_step {fs L : List Fl} {i : Nat} (hi : i < fs.length) (h : L.Perm (fs.take i)) (k : Nat) : (insL k (rdF fs i) L).Perm (fs.take (i + 1)) := by
  have e : fs.take (i + 1) = fs.take i ++ [rdF fs i] := by
    rw [List.take_succ_eq_append_getElem hi]
    congr 2
    unfold rdF
    rw [Int.toNat_natCast, List.getD_eq_getElem?_getD, List.getElem?_eq_getElem hi]
    rfl
  rw [e]
  exact (insL_perm k _ L).trans ((h.cons _).trans (List.perm_append_comm (l₁ := [_])))
/-- The loops that look for unequal masses have seen all. -/
theorem EQM_of {fs : List Fl} (h : ∀ i k : Nat, k < i → i < fs.length → ¬ (sameK (rdF fs k) (rdF fs i) = true ∧ (rdF fs k).mic = (rdF fs i).mic ∧ (rdF fs k).gr ≠ (rdF fs i).gr)) : EQM fs := by
  intro a ha b hb hk hm
  obtain ⟨i, hi, rfl⟩ := List.mem_iff_getElem.1 ha
  obtain ⟨j, hj, rfl⟩ := List.mem_iff_getElem.1 hb
  have e : ∀ (x : Nat) (hx : x < fs.length), rdF fs x = fs[x]'hx := fun x hx => by
    unfold rdF
    rw [Int.toNat_natCast, List.getD_eq_getElem?_getD, List.getElem?_eq_getElem hx]
    rfl
  rcases Nat.lt_trichotomy i j with h1 | h1 | h1
  · have := h j i h1 hj
    rw [e i hi, e j hj] at this
    exact Classical.byContradiction fun hn => this ⟨hk, hm, hn⟩
  · subst h1; rfl
  · have := h i j h1 hi
    rw [e i hi, e j hj] at this
    rw [sameK_sym] at hk
    exact Classical.byContradiction fun hn => this ⟨hk, hm.symm, fun h => hn h.symm⟩
end Go.Proofs.Ythkfahkkcjagdaa
namespace Go.Proofs.Ythkfahkkcjagdaa
open Go.RowKit Go.Proofs.YthkfahkkcjagdaaW.PrintWords Go.Proofs.YthkfahkkcjagdaaW.PrintMore Go.Proofs.YthkfahkkcjagdaaW.PrintLast

/-- Is there a plan? -/
def planE (fs : List Fl) (l least p : Int) : Int := if errE fs l least p = 0 then if bestF (sF fs (ordF fs)) least p fs.length (bestK (sF fs (ordF fs)) least p fs.length l.toNat) < 4611686018427387904 then 0 else 13 else errE fs l least p
def planC (fs : List Fl) (l least p : Int) : Int := if planE fs l least p = 0 then bestF (sF fs (ordF fs)) least p fs.length (bestK (sF fs (ordF fs)) least p fs.length l.toNat) else 0
def planL (fs : List Fl) (l least p : Int) : List (Nat × Nat) := if planE fs l least p = 0 then planF (sF fs (ordF fs)) least p fs.length (bestK (sF fs (ordF fs)) least p fs.length l.toNat) 0 else []
theorem planE_zero {fs : List Fl} {l least p : Int} (h : planE fs l least p = 0) : errE fs l least p = 0 ∧ bestF (sF fs (ordF fs)) least p fs.length (bestK (sF fs (ordF fs)) least p fs.length l.toNat) < 4611686018427387904 := by
  unfold planE at h
  split at h
  · rename_i h1
    split at h
    · rename_i h2; exact ⟨h1, h2⟩
    · cases h
  · contradiction
/-- What Lines answers, in one form. -/
theorem lines_one (w : World) (A : Option Addr) (n c : Nat) (fs : List Fl) (hn : fs.length = n) (h : kF.C w A n fs) (hk : KOK fs) (l least p : Int) :
    Calls Try.prog 19 #[.slice A n c, .agg #[.int .i64 l, .int .i64 least, .int .i64 p]] w fun e w' => ∃ (v : Value) (ls : List (Nat × Nat × Nat × Nat)), e = .returned (.tuple #[v, .int .i64 (planC fs l least p), .int .i64 (planE fs l least p)]) ∧ Below w.heap.size w w' ∧
      PlanM w' w.heap.size v (sF fs (ordF fs)) (ordF fs) least p n ls ∧ ls.map (fun x => (x.2.2.1, x.2.2.2)) = planL fs l least p := by
  subst hn
  refine (lines_any w A c fs h hk l least p).mono ?_
  rintro e w' ⟨h1, h2⟩
  have nil : PlanM w' w.heap.size (.slice none 0 0) (sF fs (ordF fs)) (ordF fs) least p fs.length [] := ⟨⟨rfl, .inl ⟨rfl, rfl⟩⟩, fun l hl => by simp at hl⟩
  by_cases hE : errE fs l least p = 0
  · rw [if_pos hE] at h2
    by_cases hb : bestF (sF fs (ordF fs)) least p fs.length (bestK (sF fs (ordF fs)) least p fs.length l.toNat) < 4611686018427387904
    · rw [if_pos hb] at h2
      obtain ⟨v, ls, rfl, h3, h4⟩ := h2
      have hp : planE fs l least p = 0 := by unfold planE; rw [if_pos hE, if_pos hb]
      exact ⟨v, ls, by rw [hp]; unfold planC; rw [if_pos hp], h1, h3, by rw [h4]; unfold planL; rw [if_pos hp]⟩
    · rw [if_neg hb] at h2
      have hp : planE fs l least p = 13 := by unfold planE; rw [if_pos hE, if_neg hb]
      refine ⟨_, [], ?_, h1, nil, ?_⟩
      · rw [h2, hp]; unfold planC; rw [if_neg (by rw [hp]; decide)]
      · unfold planL; rw [if_neg (by rw [hp]; decide)]; rfl
  · rw [if_neg hE] at h2
    have hp : planE fs l least p = errE fs l least p := by unfold planE; rw [if_neg hE]
    refine ⟨_, [], ?_, h1, nil, ?_⟩
    · rw [h2, hp]; unfold planC; rw [if_neg (by rw [hp]; exact hE)]
    · unfold planL; rw [if_neg (by rw [hp]; exact hE)]; rfl
theorem plan_eq {fs gs : List Fl} (h : KOK fs) (hp : gs.Perm fs) (he : EQM fs) (l least p : Int) : planE gs l least p = planE fs l least p ∧ planC gs l least p = planC fs l least p ∧ planL gs l least p = planL fs l least p := by
  have h1 := errE_perm hp l least p
  by_cases hE : errE fs l least p = 0
  · have hso := ordF_SOK (errE_all hE).2
    have hst := sF_eq h hp he
    have e1 := bestF_cg hst hso least p
    have e2 := bestK_cg hst hso least p l.toNat
    have e3 := planF_cg hst hso least p
    have a1 : planE gs l least p = planE fs l least p := by
      unfold planE
      rw [h1, hp.length_eq, ← e1, ← e2]
    refine ⟨a1, ?_, ?_⟩
    · unfold planC
      rw [a1, hp.length_eq, ← e1, ← e2]
    · unfold planL
      rw [a1, hp.length_eq, ← e2, ← e3]
  · have a1 : planE gs l least p = errE fs l least p ∧ planE fs l least p = errE fs l least p := by
      unfold planE
      rw [h1, if_neg hE, if_neg hE]
      exact ⟨rfl, rfl⟩
    refine ⟨by rw [a1.1, a1.2], ?_, ?_⟩
    · unfold planC; rw [a1.1, a1.2, if_neg hE, if_neg hE]
    · unfold planL; rw [a1.1, a1.2, if_neg hE, if_neg hE]
theorem planL_len (fs : List Fl) (l least p : Int) : (planL fs l least p).length ≤ 16 := by
  unfold planL
  split
  · rename_i hz
    rw [planF_len]
    have hsp := (errE_spec (planE_zero hz).1).1
    unfold bestK
    rcases kB_lt (bestF (sF fs (ordF fs)) least p fs.length) (l.toNat + 1) with h | h <;> omega
  · exact Nat.zero_le _
/-- Two lines at one place of both plans. -/
theorem line_eq {fs gs : List Fl} (h : KOK fs) (hp : gs.Perm fs) (he : EQM fs) {l least p : Int} {x : Nat × Nat} (hx : x ∈ planL fs l least p) :
    sF fs (ordF fs) x.1 = sF gs (ordF gs) x.1 ∧ (erowF (sF fs (ordF fs)) p fs.length x.1).getD (x.1 + x.2) 0 = (erowF (sF gs (ordF gs)) p gs.length x.1).getD (x.1 + x.2) 0 ∧ (crowF (sF fs (ordF fs)) least p fs.length x.1).getD (x.1 + x.2) 0 = (crowF (sF gs (ordF gs)) least p gs.length x.1).getD (x.1 + x.2) 0 := by
  unfold planL at hx
  split at hx
  · rename_i hz
    obtain ⟨hE, hb⟩ := planE_zero hz
    have hso := ordF_SOK (errE_all hE).2
    have hst := sF_eq h hp he
    have hr : restO (sF fs (ordF fs)) least p fs.length (bestK (sF fs (ordF fs)) least p fs.length l.toNat) 0 ≠ none := by
      intro e
      unfold bestF at hb
      rw [e] at hb
      exact absurd hb (by decide)
    obtain ⟨h1, h2, h3⟩ := planF_in _ 0 (Nat.zero_le _) hr x hx
    have h4 := line_cells h2 h1 h3
    have h5 := line_cells (s := sF gs (ordF gs)) (n := gs.length) (least := least) (p := p) h2 (by rw [hp.length_eq]; exact h1) (by rw [← cO_cg hst hso least p h2 h1]; exact h3)
    refine ⟨hst _ (by omega), ?_, ?_⟩
    · rw [h4.2.2.1, h5.2.2.1, cen_cg hst hso h2 h1]
    · rw [h4.2.2.2.1, h5.2.2.2.1, ← cen_cg hst hso h2 h1, costD_cg hst _ _ _ h1]
  · simp at hx
/-- A part of a row of fleeces. -/
theorem F_part {w : World} {g : Nat} {n : Nat} {xs : List Fl} (h : kF.C w (some ⟨g, 0, none⟩) n xs) {i d : Nat} (hd : i + d ≤ n) : kF.C w (some (Addr.add ⟨g, 0, none⟩ (i * 6))) d ((xs.drop i).take d) := by
  obtain ⟨h1, h2, h3⟩ := h
  refine ⟨by rw [List.length_take, List.length_drop]; omega, by omega, fun hp => ⟨_, rfl, fun j f hf => ?_⟩⟩
  obtain ⟨ad, e, hc⟩ := h3 (by omega)
  cases e
  have hj : j < d := by
    have := (List.getElem?_eq_some_iff.1 hf).1
    rw [List.length_take] at this
    omega
  rw [List.getElem?_take, if_pos hj, List.getElem?_drop] at hf
  obtain ⟨c, h4, h5, h6⟩ := hc _ _ hf
  refine ⟨c, h4, h5, fun k u hu => ?_⟩
  have h7 := h6 k u hu
  rw [add_plain] at h7
  rw [add_plain]
  have e : (⟨g, i * 6, none⟩ : Addr).add (j * kF.sz + k) = ⟨g, (i + j) * kF.sz + k, none⟩ := by
    show (⟨g, i * 6, none⟩ : Addr).add (j * 6 + k) = ⟨g, (i + j) * 6 + k, none⟩
    rw [add_at]
    congr 1
    omega
  rw [e]
  exact h7
theorem F_zero {w : World} (A : Option Addr) : kF.C w A 0 [] := ⟨rfl, by decide, fun h => absurd h (by decide)⟩
/-- The first of a row, and the rest of it, as the cut's values say them. -/
theorem F_take {w : World} {A : Option Addr} {n k : Nat} {xs : List Fl} (h : kF.C w A n xs) (hk : k ≤ n) : kF.C w A k (xs.take k) := by
  obtain ⟨h1, h2, h3⟩ := h
  refine ⟨by rw [List.length_take]; omega, by omega, fun hp => ?_⟩
  obtain ⟨ad, e, hc⟩ := h3 (by omega)
  refine ⟨ad, e, fun j f hf => ?_⟩
  have hj : j < k := by
    have := (List.getElem?_eq_some_iff.1 hf).1
    rw [List.length_take] at this
    omega
  rw [List.getElem?_take, if_pos hj] at hf
  exact hc j f hf
theorem F_drop {w : World} {b e : Nat} {ok : Nat → Prop} {A : Option Addr} {n k c : Nat} {xs : List Fl} (h : kF.R e w b ok (.slice A n c) xs) (hk : k ≤ n) (hc : n ≤ c) : kF.C w (if c = k then A else A.map fun x => x.add (k * 6)) (n - k) (xs.drop k) := by
  obtain ⟨A', c', e1, hl, hr⟩ := Kd.R_reads h
  simp only [Value.slice.injEq] at e1
  obtain ⟨rfl, rfl, rfl⟩ := e1
  rcases Nat.lt_or_ge k xs.length with h1 | h1
  · rw [if_neg (by omega)]
    obtain ⟨ad, e2, _⟩ := hr.2.2 (by omega)
    subst e2
    obtain ⟨g, rfl⟩ := Kd.R_head h
    have := F_part hr (i := k) (d := xs.length - k) (by omega)
    rwa [List.take_of_length_le (by rw [List.length_drop]; omega)] at this
  · rw [List.drop_of_length_le h1, show xs.length - k = 0 by omega]
    exact F_zero _
theorem F_own {w : World} {b e : Nat} {ok : Nat → Prop} {A : Option Addr} {n c : Nat} {xs : List Fl} (h : kF.R e w b ok (.slice A n c) xs) : kF.C w A n xs := by
  obtain ⟨A', c', e1, hl, hr⟩ := Kd.R_reads h
  simp only [Value.slice.injEq] at e1
  obtain ⟨rfl, rfl, rfl⟩ := e1
  exact hr
/-- A row of one's own stays while a younger one grows. -/
theorem F_grown {w w' w1 : World} {b e : Nat} {ok : Nat → Prop} {v : Value} {xs : List Fl} {row : Option Nat} (h : kF.R e w b ok v xs) (hb : Below w.heap.size w w') (hg : w'.grownBy w1 row) (hr : ∀ k, row = some k → w.heap.size ≤ k) : kF.R e w1 b ok v xs := by
  refine Kd.R_mono (Kd.R_step (Kd.R_bound h) fun k hk hlt => ?_) (fun _ hk => hk.1)
  refine (hg.block k (Nat.lt_of_lt_of_le hlt hb.size) fun e => ?_).trans (hb.block k hlt)
  have := hr k e.symm
  omega
theorem info44 : (Try.prog.info? 44).map (fun i => (i.zero, i.size, i.bytes)) = some (some (.agg #[.int .u8 0, .int .u8 0, .int .u8 0, .int .u8 0, .int .i64 0, .int .i64 0]), kF.sz, 24) := by kernel_rfl
/-- Two plans' lines at one place. -/
theorem lines_pair {w w' : World} {N N' : Nat} {v v' : Value} {fs gs : List Fl} {l least p : Int} {ls ls' : List (Nat × Nat × Nat × Nat)} (hk : KOK fs) (hp : gs.Perm fs) (he : EQM fs)
    (h : PlanM w N v (sF fs (ordF fs)) (ordF fs) least p fs.length ls) (h' : PlanM w' N' v' (sF gs (ordF gs)) (ordF gs) least p gs.length ls') (e : ls.map (fun x => (x.2.2.1, x.2.2.2)) = planL fs l least p) (e' : ls'.map (fun x => (x.2.2.1, x.2.2.2)) = planL fs l least p) :
    ∃ (B B' : Option Addr) (cap cap' : Nat), v = .slice B ls.length cap ∧ v' = .slice B' ls.length cap' ∧ ls.length ≤ cap ∧ ls.length ≤ cap' ∧ ∀ (j : Nat), j < ls.length → ∃ (ad ad' g g' : Addr) (k0 k1 k2 k3 ce co : Int) (d c c' : Nat), B = some ad ∧ B' = some ad' ∧
      w.cell? (ad.add (j * 8)) = some (.int .u8 k0) ∧ w.cell? ⟨(ad.add (j * 8)).block, (ad.add (j * 8)).off + 1, none⟩ = some (.int .u8 k1) ∧ w.cell? ⟨(ad.add (j * 8)).block, (ad.add (j * 8)).off + 2, none⟩ = some (.int .u8 k2) ∧ w.cell? ⟨(ad.add (j * 8)).block, (ad.add (j * 8)).off + 3, none⟩ = some (.int .u8 k3) ∧
      w.cell? ⟨(ad.add (j * 8)).block, (ad.add (j * 8)).off + 4, none⟩ = some (.slice (some g) d c) ∧ w.cell? ⟨(ad.add (j * 8)).block, (ad.add (j * 8)).off + 6, none⟩ = some (.int .i64 ce) ∧ w.cell? ⟨(ad.add (j * 8)).block, (ad.add (j * 8)).off + 7, none⟩ = some (.int .i64 co) ∧
      w'.cell? (ad'.add (j * 8)) = some (.int .u8 k0) ∧ w'.cell? ⟨(ad'.add (j * 8)).block, (ad'.add (j * 8)).off + 1, none⟩ = some (.int .u8 k1) ∧ w'.cell? ⟨(ad'.add (j * 8)).block, (ad'.add (j * 8)).off + 2, none⟩ = some (.int .u8 k2) ∧ w'.cell? ⟨(ad'.add (j * 8)).block, (ad'.add (j * 8)).off + 3, none⟩ = some (.int .u8 k3) ∧
      w'.cell? ⟨(ad'.add (j * 8)).block, (ad'.add (j * 8)).off + 4, none⟩ = some (.slice (some g') d c') ∧ w'.cell? ⟨(ad'.add (j * 8)).block, (ad'.add (j * 8)).off + 6, none⟩ = some (.int .i64 ce) ∧ w'.cell? ⟨(ad'.add (j * 8)).block, (ad'.add (j * 8)).off + 7, none⟩ = some (.int .i64 co) := by
  have hl : ls'.length = ls.length := by
    have := congrArg List.length (e'.trans e.symm)
    simpa using this
  obtain ⟨B, cap, e1, h1, h2⟩ := h.at_
  obtain ⟨B', cap', e1', h1', h2'⟩ := h'.at_
  rw [hl] at e1' h1' h2'
  refine ⟨B, B', cap, cap', e1, e1', h1, h1', fun j hj => ?_⟩
  obtain ⟨ad, x, rfl, hx, c0, c1, c2, c3, c4, _, c6, c7⟩ := h2 (j : Int) (by omega) (by omega)
  obtain ⟨ad', x', rfl, hx', d0, d1, d2, d3, d4, _, d6, d7⟩ := h2' (j : Int) (by omega) (by omega)
  rw [Int.toNat_natCast] at hx hx' c0 c1 c2 c3 c4 c6 c7 d0 d1 d2 d3 d4 d6 d7
  have p1 : (planL fs l least p)[j]? = some (x.2.2.1, x.2.2.2) := by rw [← e, List.getElem?_map, hx]; rfl
  have p2 : (planL fs l least p)[j]? = some (x'.2.2.1, x'.2.2.2) := by rw [← e', List.getElem?_map, hx']; rfl
  have p3 := p1.symm.trans p2
  simp only [Option.some.injEq, Prod.mk.injEq] at p3
  obtain ⟨q1, q2, q3⟩ := line_eq hk hp he (List.mem_of_getElem? p1)
  dsimp only at q1 q2 q3
  rw [← p3.2] at d4
  rw [← p3.1, ← p3.2] at d6 d7
  rw [← p3.1, ← q1] at d0 d1 d2 d3
  rw [← q2] at d6
  rw [← q3] at d7
  exact ⟨ad, ad', _, _, _, _, _, _, _, _, _, _, _, rfl, rfl, c0, c1, c2, c3, c4, c6, c7, d0, d1, d2, d3, d4, d6, d7⟩
end Go.Proofs.Ythkfahkkcjagdaa
