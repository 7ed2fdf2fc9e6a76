/- ClassingShuffled: fleeces in another order, the plain law. -/
import Derived.Test.YthkfahkkcjagdaaE1
import Derived.Test.YthkfahkkcjagdaaE3
import Derived.Test.YthkfahkkcjagdaaV1
namespace Go.Proofs.Ythkfahkkcjagdaa

section
variable {s t : Nat → Fl} {n : Nat} (hst : ∀ i, i < n → s i = t i)
include hst
theorem massD_cg (i : Nat) : ∀ d, i + d ≤ n → massD s i d = massD t i d
  | 0, _ => rfl
  | d + 1, h => by
    unfold massD
    rw [massD_cg i d (by omega), hst _ (by omega)]
theorem costD_cg (i : Nat) (m : Int) : ∀ d, i + d ≤ n → costD s i m d = costD t i m d
  | 0, _ => rfl
  | d + 1, h => by
    unfold costD
    rw [costD_cg i m d (by omega), hst _ (by omega)]
theorem okR_cg (p : Int) (i : Nat) : ∀ d, i + d ≤ n → okR s p i d = okR t p i d
  | 0, _ => rfl
  | d + 1, h => by
    unfold okR
    rw [okR_cg p i d (by omega), hst i (by omega), hst (i + d) (by omega)]
theorem medF_cg (i : Nat) (M : Int) : ∀ k c, i + c + k ≤ n → medF s i M k c = medF t i M k c
  | 0, _, _ => rfl
  | k + 1, c, h => by
    unfold medF
    rw [massD_cg hst i (c + 1) (by omega), medF_cg i M k (c + 1) (by omega)]
theorem med_cg {i d : Nat} (h : i + d ≤ n) : med s i d = med t i d := by
  unfold med
  rw [massD_cg hst i d h, medF_cg hst i _ d 0 (by omega)]
theorem cen_cg (hs : SOK s n) {i d : Nat} (hd : 0 < d) (h : i + d ≤ n) : cen s i d = cen t i d := by
  have h1 := (med_spec hs hd h).2.2
  unfold cen
  rw [← med_cg hst h, hst _ (by omega)]
theorem cO_cg (hs : SOK s n) (least p : Int) {i d : Nat} (hd : 0 < d) (h : i + d ≤ n) : cO s least p i d = cO t least p i d := by
  unfold cO
  rw [okR_cg hst p i d h, massD_cg hst i d h, cen_cg hst hs hd h, costD_cg hst i _ d h]
omit hst in
theorem minO_cg {f g : Nat → Option Int} : ∀ m, (∀ d, d < m → f d = g d) → minO f m = minO g m
  | 0, _ => rfl
  | m + 1, h => by
    unfold minO
    rw [minO_cg m (fun d hd => h d (by omega)), h m (by omega)]
theorem restO_cg (hs : SOK s n) (least p : Int) : ∀ k i, restO s least p n k i = restO t least p n k i
  | 0, _ => rfl
  | k + 1, i => by
    unfold restO
    refine minO_cg _ fun d hd => ?_
    rw [cO_cg hst hs least p (by omega) (by omega), restO_cg hs least p k]
theorem bestF_cg (hs : SOK s n) (least p : Int) : bestF s least p n = bestF t least p n := by
  funext m
  unfold bestF
  rw [restO_cg hst hs]
theorem bestK_cg (hs : SOK s n) (least p : Int) (most : Nat) : bestK s least p n most = bestK t least p n most := by
  unfold bestK
  rw [bestF_cg hst hs]
omit hst in
theorem fdF_cg {P Q : Nat → Bool} : ∀ k d, (∀ e, e < d + k → P e = Q e) → fdF P k d = fdF Q k d
  | 0, _, _ => rfl
  | k + 1, d, h => by
    unfold fdF
    rw [h d (by omega), fdF_cg k (d + 1) (fun e he => h e (by omega))]
theorem cutD_cg (hs : SOK s n) (least p : Int) (k i : Nat) : cutD s least p n k i = cutD t least p n k i := by
  unfold cutD
  refine fdF_cg _ _ fun e he => ?_
  unfold isD
  rw [cO_cg hst hs least p (by omega) (by omega), restO_cg hst hs, restO_cg hst hs]
theorem planF_cg (hs : SOK s n) (least p : Int) : ∀ k i, planF s least p n k i = planF t least p n k i
  | 0, _ => rfl
  | k + 1, i => by
    unfold planF
    rw [cutD_cg hst hs, planF_cg hs least p k]
theorem SOK_cg (hs : SOK s n) : SOK t n := fun k hk => by rw [← hst k hk]; exact hs k hk
end

/-- The fleeces in their order. -/
def sL (fs : List Fl) : List Fl := (ordF fs).map (rdF fs)
theorem sL_length (fs : List Fl) : (sL fs).length = fs.length := by rw [sL, List.length_map, ordF_length]
theorem sL_get (fs : List Fl) {i : Nat} (h : i < fs.length) : sF fs (ordF fs) i = (sL fs).getD i fl0 := by
  have h1 : i < (ordF fs).length := by rw [ordF_length]; exact h
  unfold sF sL
  rw [List.getD_eq_getElem?_getD, List.getD_eq_getElem?_getD, List.getElem?_map, List.getElem?_eq_getElem h1]
  rfl
theorem sL_perm (fs : List Fl) : (sL fs).Perm fs := by
  have h1 := (ordF_perm fs).map (rdF fs)
  have h2 : (upto fs.length).map (rdF fs) = fs := by
    refine List.ext_getElem? fun j => ?_
    unfold upto
    rw [List.getElem?_map, List.getElem?_map]
    rcases Nat.lt_or_ge j fs.length with h | h
    · rw [List.getElem?_range h, List.getElem?_eq_getElem h]
      show some (rdF fs (j : Int)) = _
      unfold rdF
      rw [Int.toNat_natCast, List.getD_eq_getElem?_getD, List.getElem?_eq_getElem h]
      rfl
    · rw [List.getElem?_eq_none (by simpa using h), List.getElem?_eq_none h]
      rfl
  rw [h2] at h1
  exact h1
theorem sL_sorted {fs : List Fl} (h : KOK fs) : (sL fs).Pairwise (fun a b => fcmp a b ≤ 0) := by
  have hpw := srt_ahd (fcf_law h) (upto fs.length) (upto_pw _)
  unfold sL ordF
  rw [List.pairwise_map]
  refine hpw.imp fun {a b} hab => ?_
  rcases hab with h1 | h1
  · exact Int.le_of_lt h1
  · exact Int.le_of_eq h1.1
/-- Equal kinds and diameters have equal masses. -/
def EQM (fs : List Fl) : Prop := ∀ a ∈ fs, ∀ b ∈ fs, sameK a b = true → a.mic = b.mic → a.gr = b.gr
theorem sL_eq {fs gs : List Fl} (h : KOK fs) (hp : gs.Perm fs) (he : EQM fs) : sL fs = sL gs := by
  have hg : KOK gs := fun f hf => h f (hp.mem_iff.1 hf)
  refine List.Perm.eq_of_pairwise (le := fun a b => fcmp a b ≤ 0) (fun a b ha hb h1 h2 => ?_) (sL_sorted h) (sL_sorted hg) ((sL_perm fs).trans (hp.symm.trans (sL_perm gs).symm))
  have ha' := (sL_perm fs).mem_iff.1 ha
  have hb' := hp.mem_iff.1 ((sL_perm gs).mem_iff.1 hb)
  have ka := h a ha'
  have kb := h b hb'
  rw [fcmp_key ka kb] at h1
  rw [fcmp_key kb ka] at h2
  have hk : keyK a = keyK b ∧ a.mic = b.mic := by
    unfold cmpI at h1 h2
    (repeat' split at h1) <;> (repeat' split at h2) <;> omega
  have hs := (sameK_key ka kb).2 hk.1
  have hgr := he a ha' b hb' hs hk.2
  unfold sameK at hs
  rw [decide_eq_true_eq] at hs
  obtain ⟨a0, a1, a2, a3, a4, a5⟩ := a
  obtain ⟨b0, b1, b2, b3, b4, b5⟩ := b
  obtain ⟨h5, h6, h7, h8⟩ := hs
  have h9 := hk.2
  dsimp only at h5 h6 h7 h8 h9 hgr
  rw [h5, h6, h7, h8, h9, hgr]
theorem sF_eq {fs gs : List Fl} (h : KOK fs) (hp : gs.Perm fs) (he : EQM fs) : ∀ i, i < fs.length → sF fs (ordF fs) i = sF gs (ordF gs) i := fun i hi => by
  rw [sL_get fs hi, sL_get gs (by rw [hp.length_eq]; exact hi), sL_eq h hp he]
theorem errE_perm {fs gs : List Fl} (hp : gs.Perm fs) (l least p : Int) : errE gs l least p = errE fs l least p := by
  have h1 : gs.all flOK = fs.all flOK := by
    rw [Bool.eq_iff_iff, List.all_eq_true, List.all_eq_true]
    exact ⟨fun h x hx => h x (hp.mem_iff.2 hx), fun h x hx => h x (hp.mem_iff.1 hx)⟩
  unfold errE
  rw [hp.length_eq, h1]
/-- What the other list is, after so many fleeces. -/
def insL (k : Nat) (x : Fl) (L : List Fl) : List Fl := L.take k ++ x :: L.drop k
theorem insL_perm (k : Nat) (x : Fl) (L : List Fl) : (insL k x L).Perm (x :: L) := by
  unfold insL
  refine List.perm_middle.trans ?_
  rw [List.take_append_drop]
theorem insL_length (k : Nat) (x : Fl) (L : List Fl) : (insL k x L).length = L.length + 1 := by rw [(insL_perm k x L).length_eq]; rfl
theorem ins_step {fs L : List Fl} {i : Nat} (hi : i < fs.length) (h : L.Perm (fs.take i)) (k : Nat) : (insL k (rdF fs i) L).Perm (fs.take (i + 1)) := by
  have e : fs.take (i + 1) = fs.take i ++ [rdF fs i] := by
    rw [List.take_succ_eq_append_getElem hi]
    congr 2
    unfold rdF
    rw [Int.toNat_natCast, List.getD_eq_getElem?_getD, List.getElem?_eq_getElem hi]
    rfl
  rw [e]
  exact (insL_perm k _ L).trans ((h.cons _).trans (List.perm_append_comm (l₁ := [_])))
/-- The loops that look for unequal masses have seen all. -/
theorem EQM_of {fs : List Fl} (h : ∀ i k : Nat, k < i → i < fs.length → ¬ (sameK (rdF fs k) (rdF fs i) = true ∧ (rdF fs k).mic = (rdF fs i).mic ∧ (rdF fs k).gr ≠ (rdF fs i).gr)) : EQM fs := by
  intro a ha b hb hk hm
  obtain ⟨i, hi, rfl⟩ := List.mem_iff_getElem.1 ha
  obtain ⟨j, hj, rfl⟩ := List.mem_iff_getElem.1 hb
  have e : ∀ (x : Nat) (hx : x < fs.length), rdF fs x = fs[x]'hx := fun x hx => by
    unfold rdF
    rw [Int.toNat_natCast, List.getD_eq_getElem?_getD, List.getElem?_eq_getElem hx]
    rfl
  rcases Nat.lt_trichotomy i j with h1 | h1 | h1
  · have := h j i h1 hj
    rw [e i hi, e j hj] at this
    exact Classical.byContradiction fun hn => this ⟨hk, hm, hn⟩
  · subst h1; rfl
  · have := h i j h1 hi
    rw [e i hi, e j hj] at this
    rw [sameK_sym] at hk
    exact Classical.byContradiction fun hn => this ⟨hk, hm.symm, fun h => hn h.symm⟩
end Go.Proofs.Ythkfahkkcjagdaa
