/- What the laying of the table answers: its walk. -/

import Derived.Test.YthkfahkkcjagdaaC8
namespace Go.Proofs.Ythkfahkkcjagdaa
open Go.RowKit Go.Proofs.YthkfahkkcjagdaaW.PrintWords Go.Proofs.YthkfahkkcjagdaaW.PrintMore Go.Proofs.YthkfahkkcjagdaaW.PrintLast

/-! ### The order -/
def keyK (a : Fl) : Int := ((a.k0 * 256 + a.k1) * 256 + a.k2) * 256 + a.k3
theorem kcmp_key {a b : Fl} (ha : kOK a) (hb : kOK b) : kcmp a b = cmpI (keyK a) (keyK b) := by
  obtain ⟨⟨a0, a1⟩, ⟨a2, a3⟩, ⟨a4, a5⟩, a6, a7⟩ := ha
  obtain ⟨⟨b0, b1⟩, ⟨b2, b3⟩, ⟨b4, b5⟩, b6, b7⟩ := hb
  unfold kcmp keyK cmpI
  split
  · split
    · split
      · split
        · rw [if_neg (by omega), if_neg (by omega)]
        · split
          · rw [if_pos (by omega)]
          · rw [if_neg (by omega), if_pos (by omega)]
      · split
        · rw [if_pos (by omega)]
        · rw [if_neg (by omega), if_pos (by omega)]
    · split
      · rw [if_pos (by omega)]
      · rw [if_neg (by omega), if_pos (by omega)]
  · split
    · rw [if_pos (by omega)]
    · rw [if_neg (by omega), if_pos (by omega)]
theorem sameK_key {a b : Fl} (ha : kOK a) (hb : kOK b) : sameK a b = true ↔ keyK a = keyK b := by
  obtain ⟨⟨a0, a1⟩, ⟨a2, a3⟩, ⟨a4, a5⟩, a6, a7⟩ := ha
  obtain ⟨⟨b0, b1⟩, ⟨b2, b3⟩, ⟨b4, b5⟩, b6, b7⟩ := hb
  unfold sameK keyK
  rw [decide_eq_true_eq]
  omega
theorem fcmp_key {a b : Fl} (ha : kOK a) (hb : kOK b) : fcmp a b = if keyK a = keyK b then cmpI a.mic b.mic else cmpI (keyK a) (keyK b) := by
  unfold fcmp
  rw [kcmp_key ha hb]
  unfold cmpI
  (repeat' split) <;> omega
def KOK (fs : List Fl) : Prop := ∀ f ∈ fs, kOK f
theorem KOK.rd {fs : List Fl} (h : KOK fs) (x : Int) : kOK (rdF fs x) := by
  unfold rdF
  rw [List.getD_eq_getElem?_getD]
  rcases Nat.lt_or_ge x.toNat fs.length with h1 | h1
  · rw [List.getElem?_eq_getElem h1]
    exact h _ (List.getElem_mem h1)
  · rw [List.getElem?_eq_none h1]
    exact ⟨⟨by decide, by decide⟩, ⟨by decide, by decide⟩, ⟨by decide, by decide⟩, by decide, by decide⟩
theorem fcf_law {fs : List Fl} (h : KOK fs) : CmpLaw (fcf fs) := by
  refine ⟨fun x y => ?_, fun x y z => ?_⟩
  · unfold fcf
    rw [fcmp_key (h.rd x) (h.rd y), fcmp_key (h.rd y) (h.rd x)]
    unfold cmpI
    (repeat' split) <;> omega
  · unfold fcf
    rw [fcmp_key (h.rd x) (h.rd y), fcmp_key (h.rd y) (h.rd z), fcmp_key (h.rd x) (h.rd z)]
    generalize keyK (rdF fs x) = a
    generalize keyK (rdF fs y) = b
    generalize keyK (rdF fs z) = c
    unfold cmpI
    intro h1 h2
    split at h1 <;> split at h2 <;> split <;> (repeat' split at h1) <;> (repeat' split at h2) <;> (repeat' split) <;> omega
theorem ordF_perm (fs : List Fl) : (ordF fs).Perm (upto fs.length) := srt_perm' _ _
theorem ordF_length (fs : List Fl) : (ordF fs).length = fs.length := by rw [(ordF_perm fs).length_eq, upto_length]
theorem ordF_mem {fs : List Fl} {x : Int} (h : x ∈ ordF fs) : 0 ≤ x ∧ x < fs.length := (upto_mem _ x).1 ((ordF_perm fs).mem_iff.1 h)
/-- In the order a kind's diameters do not fall. -/
theorem ordF_sorted {fs : List Fl} (h : KOK fs) : SRT (sF fs (ordF fs)) fs.length := by
  intro a b hab hb hk
  have hpw := srt_ahd (fcf_law h) (upto fs.length) (upto_pw _)
  have hl : (srt (fcf fs) (upto fs.length)).length = fs.length := ordF_length fs
  have h1 := List.pairwise_iff_getElem.1 hpw a b (by omega) (by omega) hab
  have e1 : ∀ i (hi : i < (srt (fcf fs) (upto fs.length)).length), (srt (fcf fs) (upto fs.length))[i]'hi = (ordF fs).getD i 0 := fun i hi => by
    unfold ordF
    rw [List.getD_eq_getElem?_getD, List.getElem?_eq_getElem hi]; rfl
  rw [e1 a (by omega), e1 b (by omega)] at h1
  have h2 : fcmp (sF fs (ordF fs) a) (sF fs (ordF fs) b) ≤ 0 := by
    rcases h1 with h1 | h1
    · exact Int.le_of_lt h1
    · exact Int.le_of_eq h1.1
  have ka : kOK (sF fs (ordF fs) a) := h.rd _
  have kb : kOK (sF fs (ordF fs) b) := h.rd _
  rw [fcmp_key ka kb, if_pos ((sameK_key ka kb).1 hk)] at h2
  unfold cmpI at h2
  split at h2
  · omega
  · split at h2 <;> omega
theorem all_rd {fs : List Fl} (h : fs.all flOK = true) {x : Int} (h0 : 0 ≤ x) (h1 : x < fs.length) : flOK (rdF fs x) = true := by
  unfold rdF
  rw [List.getD_eq_getElem?_getD, List.getElem?_eq_getElem (show x.toNat < fs.length by omega)]
  exact List.all_eq_true.1 h _ (List.getElem_mem _)
theorem ordF_SOK {fs : List Fl} (h : fs.all flOK = true) : SOK (sF fs (ordF fs)) fs.length := by
  intro k hk
  have hm := ordF_mem (getD_mem (l := ordF fs) (i := k) (by rw [ordF_length]; exact hk))
  have := all_rd h hm.1 hm.2
  unfold flOK at this
  rw [decide_eq_true_eq] at this
  exact ⟨⟨this.1, this.2.1⟩, this.2.2.1, this.2.2.2⟩
end Go.Proofs.Ythkfahkkcjagdaa
