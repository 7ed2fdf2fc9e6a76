/- The stable sort of up to 128 numbers from 0 on, by whatever consistent comparison. -/
import Derived.Test.YthkfahkkcjagdaaK6
namespace Go.Proofs.Ythkfahkkcjagdaa
open Go.RowKit Go.Proofs.YthkfahkkcjagdaaW.PrintWords Go.Proofs.YthkfahkkcjagdaaW.PrintMore Go.Proofs.YthkfahkkcjagdaaW.PrintLast

/-- A comparison that is consistent. -/
structure CmpLaw (cf : Int → Int → Int) : Prop where
  anti : ∀ x y, cf y x < 0 ↔ 0 < cf x y
  trans : ∀ x y z, cf x y ≤ 0 → cf y z ≤ 0 → cf x z ≤ 0
/-- x stands ahead of y in the stable order. -/
def ahd (cf : Int → Int → Int) (x y : Int) : Prop := cf x y < 0 ∨ (cf x y = 0 ∧ x < y)
section
variable {cf : Int → Int → Int}
theorem CmpLaw.tr (h : CmpLaw cf) {x y z : Int} (h1 : ahd cf x y) (h2 : ahd cf y z) : ahd cf x z := by
  unfold ahd at *
  have a := h.trans x y z (by omega) (by omega)
  have b := h.anti x y
  have c := h.anti y z
  have d := h.anti x z
  have e := h.anti y x
  have f := h.anti z y
  have k := h.anti z x
  have t1 := h.trans z x y
  have t2 := h.trans y z x
  omega
theorem CmpLaw.asym (h : CmpLaw cf) {x y : Int} (h1 : ahd cf x y) (h2 : ahd cf y x) : x = y := by
  unfold ahd at *
  have a := h.anti x y
  have b := h.anti y x
  omega
theorem CmpLaw.cross (h : CmpLaw cf) {x y : Int} (hlt : x < y) : (cf y x < 0 ↔ ahd cf y x) ∧ (ahd cf y x ∨ ahd cf x y) := by
  unfold ahd
  have a := h.anti x y
  have b := h.anti y x
  omega
theorem insR_ahd (h : CmpLaw cf) (x : Int) : ∀ l : List Int, l.Pairwise (fun b a => ahd cf a b) → (∀ y ∈ l, y < x) → (insR cf x l).Pairwise (fun b a => ahd cf a b) := by
  intro l
  induction l with
  | nil => intro _ _; unfold insR; exact List.pairwise_singleton _ _
  | cons y l ih =>
    intro hp hx
    obtain ⟨h1, h2⟩ := List.pairwise_cons.1 hp
    have hy := hx y List.mem_cons_self
    unfold insR
    split
    · rename_i hc
      refine List.pairwise_cons.2 ⟨fun a ha => ?_, ih h2 (fun z hz => hx z (List.mem_cons_of_mem _ hz))⟩
      rcases (insR_mem _ _ _ _).1 ha with rfl | ha
      · exact .inl hc
      · exact h1 a ha
    · rename_i hc
      have hyx : ahd cf y x := by
        have a := h.cross hy
        rcases a.2 with k | k
        · exact absurd (a.1.2 k) hc
        · exact k
      refine List.pairwise_cons.2 ⟨fun a ha => ?_, hp⟩
      rcases List.mem_cons.1 ha with rfl | ha
      · exact hyx
      · exact h.tr (h1 a ha) hyx
theorem srtR_ahd (h : CmpLaw cf) : ∀ (l acc : List Int), acc.Pairwise (fun b a => ahd cf a b) → (∀ y ∈ acc, ∀ x ∈ l, y < x) → l.Pairwise (· < ·) → (l.foldl (fun acc x => insR cf x acc) acc).Pairwise (fun b a => ahd cf a b) := by
  intro l
  induction l with
  | nil => intro acc hp _ _; exact hp
  | cons x l ih =>
    intro acc hp hlt hl
    obtain ⟨h1, h2⟩ := List.pairwise_cons.1 hl
    rw [List.foldl_cons]
    refine ih _ (insR_ahd h x acc hp (fun y hy => hlt y hy x List.mem_cons_self)) (fun y hy z hz => ?_) h2
    rcases (insR_mem _ _ _ _).1 hy with rfl | hy
    · exact h1 z hz
    · exact hlt y hy z (List.mem_cons_of_mem _ hz)
/-- The insertion sort of rising numbers is the stable order. -/
theorem srt_ahd (h : CmpLaw cf) (l : List Int) (hl : l.Pairwise (· < ·)) : (srt cf l).Pairwise (ahd cf) := by
  unfold srt srtR
  rw [List.pairwise_reverse]
  exact srtR_ahd h l [] List.Pairwise.nil (fun y hy => by simp at hy) hl
theorem insR_perm' (cf : Int → Int → Int) (x : Int) : ∀ l, (insR cf x l).Perm (x :: l) := by
  intro l
  induction l with
  | nil => exact List.Perm.refl _
  | cons y l ih =>
    unfold insR
    split
    · exact (ih.cons y).trans (List.Perm.swap x y l)
    · exact List.Perm.refl _
theorem srt_perm' (cf : Int → Int → Int) (l : List Int) : (srt cf l).Perm l := by
  have key : ∀ (l acc : List Int), (l.foldl (fun acc x => insR cf x acc) acc).Perm (l ++ acc) := by
    intro l
    induction l with
    | nil => intro acc; exact List.Perm.refl _
    | cons a l ih =>
      intro acc
      rw [List.foldl_cons]
      refine (ih _).trans ?_
      refine ((insR_perm' cf a acc).append_left l).trans ?_
      exact List.perm_middle
  unfold srt srtR
  refine (List.reverse_perm _).trans ?_
  have := key l []
  rwa [List.append_nil] at this
/-- What is sorted so and has the same numbers is the insertion sort's answer. -/
theorem srt_one (h : CmpLaw cf) {l m : List Int} (hl : l.Pairwise (· < ·)) (hm : m.Pairwise (ahd cf)) (hp : m.Perm l) : m = srt cf l :=
  List.Perm.eq_of_pairwise (le := ahd cf) (fun _ _ _ _ h1 h2 => h.asym h1 h2) hm (srt_ahd h l hl) (hp.trans (srt_perm' cf l).symm)
theorem upto_pw (n : Nat) : (upto n).Pairwise (· < ·) := by
  unfold upto
  exact List.Pairwise.map _ (fun a b (h : a < b) => by show (a : Int) < (b : Int); omega) List.pairwise_lt_range
theorem upto_seg (n a b : Nat) (x : Int) (h : x ∈ seg (upto n) a b) : (a : Int) ≤ x ∧ x < b := by
  obtain ⟨i, h1, h2, h3, rfl⟩ := mem_seg h
  rw [upto_length] at h3
  have : (upto n).getD i 0 = (i : Int) := by simp [upto, List.getD_eq_getElem?_getD, h3]
  rw [this]; omega
/-- A segment that is in the stable order, and has the numbers that it began with. -/
def Sg (cf : Int → Int → Int) (n : Nat) (ys : List Int) (a b : Nat) : Prop := (seg ys a b).Pairwise (ahd cf) ∧ (seg ys a b).Perm (seg (upto n) a b)
theorem Sg.keep {n : Nat} {ys zs : List Int} {i j a b : Nat} (h : Sg cf n ys i j) (hl : zs.length = ys.length) (h1 : zs.take a = ys.take a) (h2 : zs.drop b = ys.drop b) (h3 : j ≤ a ∨ b ≤ i) : Sg cf n zs i j := by
  have e : seg zs i j = seg ys i j := by
    rcases h3 with h3 | h3
    · exact take_seg zs ys h1 h3
    · exact drop_seg zs ys hl h2 h3
  unfold Sg
  rw [e]
  exact h
theorem Sg.merge (h : CmpLaw cf) {n : Nat} {ys : List Int} {a m b : Nat} (h1 : Sg cf n ys a m) (h2 : Sg cf n ys m b) (l1 : a < m) (l2 : m < b) (le : b ≤ ys.length) : MergeOK cf (ahd cf) ys a m b :=
  ⟨l1, l2, le, h1.1, h2.1, fun x hx y hy => by
    have a1 := upto_seg n a m x (h1.2.mem_iff.1 hx)
    have a2 := upto_seg n m b y (h2.2.mem_iff.1 hy)
    exact h.cross (by omega), fun _ _ _ => h.tr⟩
theorem Sg.join {n : Nat} {ys zs : List Int} {a m b : Nat} (h1 : Sg cf n ys a m) (h2 : Sg cf n ys m b) (l1 : a ≤ m) (l2 : m ≤ b) (hf : Fr ys zs a b) (hp : (seg zs a b).Pairwise (ahd cf)) : Sg cf n zs a b := by
  refine ⟨hp, hf.perm.trans ?_⟩
  rw [seg_split ys l1 l2, seg_split (upto n) l1 l2]
  exact (h1.2.append_right _).trans (List.Perm.append_left _ h2.2)
/-- The data in the course of the sort: numbers in some order, of which the block g has them. -/
structure ST (cf : Int → Int → Int) (g n : Nat) (w0 W : World) (ys : List Int) : Prop where
  k : Kp (fun i => i = g) w0 W
  b : Blk W g (ints ys) 3
  p : ys.Perm (upto n)
theorem ST.len {g n : Nat} {w0 W : World} {ys : List Int} (h : ST cf g n w0 W ys) : ys.length = n := by rw [h.p.length_eq, upto_length]
theorem ST.dom {g n : Nat} {w0 W : World} {ys : List Int} (h : ST cf g n w0 W ys) : ∀ x ∈ ys, 0 ≤ x ∧ x < n := fun x hx => (upto_mem n x).1 (h.p.mem_iff.1 hx)
theorem Fr.perm_all {xs ys : List Int} {a b : Nat} (h : Fr xs ys a b) (hab : a ≤ b) : ys.Perm xs := by
  rw [seg_whole ys hab, seg_whole xs hab, h.lo, h.hi]
  exact List.Perm.append_left _ (h.perm.append_right _)
def IPost (cf : Int → Int → Int) (g n : Nat) (w0 : World) (ys : List Int) (lo hi : Nat) (e : Ending) (w' : World) : Prop :=
  e = .returned (.tuple #[]) ∧ ∃ zs, ST cf g n w0 w' zs ∧ zs.take lo = ys.take lo ∧ zs.drop hi = ys.drop hi ∧ Sg cf n zs lo hi
theorem isort_step {k b g : Nat} {I : World → Prop} {n : Nat} (hC : CmpC k b I cf (fun x => 0 ≤ x ∧ x < n) g) (hL : CmpLaw cf) (hn : n ≤ 128) {w0 : World} (hI : I w0) {W : World} {ys : List Int} (h : ST cf g n w0 W ys) (lo hi : Nat) (hlh : lo ≤ hi) (hh : hi ≤ n) (hd : ys.drop lo = (upto n).drop lo) :
    Calls Try.prog 134 #[.slice (some ⟨g, 0, none⟩) n n, .int .i64 lo, .int .i64 hi, .func (.func k) #[] #[.pointer (some ⟨b, 0, none⟩)]] W (IPost cf g n w0 ys lo hi) := by
  have hl := h.len
  refine (isort_any hC ys h.dom W h.b (hC.keep _ _ hI h.k) lo hi hlh (by omega) n n (by omega) (by omega)).mono ?_
  rintro e w' ⟨rfl, hk, hb⟩
  have hseg : (ys.drop lo).take (hi - lo) = seg (upto n) lo hi := by
    rw [hd]; unfold seg; rw [List.drop_take]
  have hsl : (srt cf ((ys.drop lo).take (hi - lo))).length = hi - lo := by rw [srt_length, hseg, seg_length _ _ _ (by rw [upto_length]; omega)]
  have hlen : (ys.take lo ++ (srt cf ((ys.drop lo).take (hi - lo)) ++ ys.drop hi)).length = ys.length := by
    rw [List.length_append, List.length_append, hsl, List.length_take, List.length_drop]; omega
  have h1 : (ys.take lo ++ (srt cf ((ys.drop lo).take (hi - lo)) ++ ys.drop hi)).take lo = ys.take lo := by
    rw [List.take_append, List.length_take, show lo - min lo ys.length = 0 by omega, List.take_zero, List.append_nil, List.take_take, Nat.min_self]
  have hpre : (ys.take lo ++ srt cf ((ys.drop lo).take (hi - lo))).length = hi := by rw [List.length_append, hsl, List.length_take]; omega
  have h2 : (ys.take lo ++ (srt cf ((ys.drop lo).take (hi - lo)) ++ ys.drop hi)).drop hi = ys.drop hi := by
    rw [← List.append_assoc, List.drop_append, hpre, Nat.sub_self, List.drop_zero, List.drop_eq_nil_of_le (by omega), List.nil_append]
  have h3 : seg (ys.take lo ++ (srt cf ((ys.drop lo).take (hi - lo)) ++ ys.drop hi)) lo hi = srt cf ((ys.drop lo).take (hi - lo)) := by
    unfold seg
    rw [← List.append_assoc, List.take_append, hpre, Nat.sub_self, List.take_zero, List.append_nil, List.take_of_length_le (by omega), List.drop_append, List.length_take, show lo - min lo ys.length = 0 by omega, List.drop_zero, List.drop_eq_nil_of_le (by rw [List.length_take]; omega), List.nil_append]
  have hys : seg ys lo hi = seg (upto n) lo hi := by rw [← hseg]; unfold seg; rw [List.drop_take]
  have hsg : Sg cf n (ys.take lo ++ (srt cf ((ys.drop lo).take (hi - lo)) ++ ys.drop hi)) lo hi := by
    unfold Sg
    rw [h3, hseg]
    refine ⟨srt_ahd hL _ ?_, srt_perm' cf _⟩
    unfold seg
    exact ((upto_pw n).sublist (List.take_sublist _ _)).sublist (List.drop_sublist _ _)
  have hF : Fr ys (ys.take lo ++ (srt cf ((ys.drop lo).take (hi - lo)) ++ ys.drop hi)) lo hi := ⟨hlen, h1, h2, by rw [hys]; exact hsg.2⟩
  exact ⟨rfl, _, ⟨h.k.step hk, hb, (hF.perm_all hlh).trans h.p⟩, h1, h2, hsg⟩
theorem merge_step {k b g : Nat} {I : World → Prop} {n : Nat} (hC : CmpC k b I cf (fun x => 0 ≤ x ∧ x < n) g) (hL : CmpLaw cf) (hn : n ≤ 128) {w0 : World} (hI : I w0) {W : World} {ys : List Int} (h : ST cf g n w0 W ys) (lo mi hi : Nat) (l1 : lo < mi) (l2 : mi < hi) (hh : hi ≤ n) (h1 : Sg cf n ys lo mi) (h2 : Sg cf n ys mi hi) :
    Calls Try.prog 135 #[.slice (some ⟨g, 0, none⟩) n n, .int .i64 lo, .int .i64 mi, .int .i64 hi, .func (.func k) #[] #[.pointer (some ⟨b, 0, none⟩)]] W (IPost cf g n w0 ys lo hi) := by
  have hl := h.len
  refine (merge_any hC n n (by omega) (hi - lo) ys W lo mi hi (Nat.le_refl _) (h1.merge hL h2 l1 l2 (by omega)) h.dom h.b (hC.keep _ _ hI h.k) (by omega)).mono ?_
  rintro e w' ⟨rfl, hk, zs, hf, hp, hb⟩
  exact ⟨rfl, zs, ⟨h.k.step hk, hb, (hf.perm_all (by omega)).trans h.p⟩, hf.lo, hf.hi, h1.join h2 (by omega) (by omega) hf hp⟩
end
end Go.Proofs.Ythkfahkkcjagdaa
