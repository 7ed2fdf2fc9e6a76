/- Texts of this claim and words of the kit's print, trimmed to what it uses and joined. -/
import Derived.Deep.CutBlock
import Derived.StillTailTactics
import Derived.Test.YthkfahkkcjagdaaZhC
import Derived.Test.YthkfahkkcjagdaaZhC7
section
namespace Go.Proofs.Ythkfahkkcjagdaa
open Go.RowKit Go.Proofs.YthkfahkkcjagdaaW.PrintWords Go.Proofs.YthkfahkkcjagdaaW.PrintMore Go.Proofs.YthkfahkkcjagdaaW.PrintLast

/-- Slices over whole blocks of n cells. -/
def sls (n : Nat) (rs : List Nat) : List Value := rs.map fun r => .slice (some ⟨r, 0, none⟩) n n
theorem sls_length (n : Nat) (rs : List Nat) : (sls n rs).length = rs.length := by simp [sls]
theorem sls_get (n : Nat) (rs : List Nat) {i : Nat} (h : i < rs.length) : (sls n rs)[i]? = some (.slice (some ⟨rs.getD i 0, 0, none⟩) n n) := by
  simp [sls, List.getD_eq_getElem?_getD, List.getElem?_eq_getElem h]
theorem OwnS.get {w : World} {N : Nat} {v : Value} {xs : List Value} (h : OwnS w N v xs) {i : Nat} {y : Value} (hy : xs[i]? = some y) : ∃ g cap, v = .slice (some ⟨g, 0, none⟩) xs.length cap ∧ xs.length ≤ cap ∧ N ≤ g ∧ w.cell? ⟨g, i, none⟩ = some y := by
  have hi : i < xs.length := (List.getElem?_eq_some_iff.1 hy).1
  rcases h.2 with ⟨_, h0⟩ | ⟨g, cap, cur, rfl, hb, hh, h1, h2, h3, h4⟩
  · omega
  · refine ⟨g, cap, rfl, h1, hb, ?_⟩
    have e1 := congrArg (fun l => l[i]?) h4

    rw [List.getElem?_take, if_pos (by omega), Array.getElem?_toList, hy] at e1
    simp [World.cell?, hh, e1]
/-- A table with so many rows. -/
structure TT (w : World) (N bt o : Nat) (A : Option Addr) (cf : Nat) (fs : List Fl) (ord : List Int) (least p : Int) (cv ev : Value) (r1s r2s : List Nat) : Prop where
  tb : TB w bt o A cf fs ord cv ev
  c : OwnS w N cv (sls (fs.length + 1) r1s)
  e : OwnS w N ev (sls (fs.length + 1) r2s)
  d : ∀ k, cv.ownBlock = some k → ev.ownBlock ≠ some k
  l : r2s.length = r1s.length
  rc : ∀ a, a < r1s.length → Blk w (r1s.getD a 0) (ints (crowF (sF fs ord) least p fs.length a)) 3
  re : ∀ a, a < r1s.length → Blk w (r2s.getD a 0) (ints (erowF (sF fs ord) p fs.length a)) 3
  hb : N ≤ bt
  ha : 0 < fs.length → ∀ ad, A = some ad → ad.block < N
section
variable {w w' : World} {N bt o : Nat} {A : Option Addr} {cf : Nat} {fs : List Fl} {ord : List Int} {least p : Int} {cv ev : Value} {r1s r2s : List Nat}
theorem getD_append_lt {l : List Nat} {x a : Nat} (h : a < l.length) : (l ++ [x]).getD a 0 = l.getD a 0 := by
  rw [List.getD_eq_getElem?_getD, List.getElem?_append_left h, ← List.getD_eq_getElem?_getD]
theorem getD_append_eq {l : List Nat} {x a : Nat} (h : a = l.length) : (l ++ [x]).getD a 0 = x := by
  subst h; simp [List.getD_eq_getElem?_getD]
theorem TT.below (h : TT w N bt o A cf fs ord least p cv ev r1s r2s) (k : Below w.heap.size w w') : TT w' N bt o A cf fs ord least p cv ev r1s r2s :=
  { h with tb := h.tb.below k, c := h.c.below k, e := h.e.below k, rc := fun a ha => (h.rc a ha).below k, re := fun a ha => (h.re a ha).below k }
theorem TT.step (h : TT w N bt o A cf fs ord least p cv ev r1s r2s) {e0 : Ending} (k : RowPost w bt o A cf fs ord cv ev N (sls (fs.length + 1) r1s) (sls (fs.length + 1) r2s) r1s.length least p e0 w') :
    e0 = .returned (.tuple #[]) ∧ ∃ cv' ev' r1 r2, TT w' N bt o A cf fs ord least p cv' ev' (r1s ++ [r1]) (r2s ++ [r2]) ∧ Kp (fun k => N ≤ k) w w' ∧ ∀ b cs t, Blk w b cs t → t ≠ 35 → t ≠ 104 → Blk w' b cs t := by
  obtain ⟨rfl, r1, r2, cv', ev', tb, hk, hc, he, hd, h1, h2, _, _⟩ := k
  have n1 : ∀ b cs t, Blk w b cs t → t ≠ 35 → t ≠ 104 → ¬ (b = bt ∨ cv.ownBlock = some b ∨ ev.ownBlock = some b) := by
    rintro b cs t hb ht ht2 (h3 | h3 | h3)
    · exact hb.ne_of_type h.tb.t ht2 h3
    · exact own_type_ne h.c hb ht h3
    · exact own_type_ne h.e hb ht h3
  refine ⟨rfl, cv', ev', r1, r2, ⟨tb, by simpa [sls] using hc, by simpa [sls] using he, hd, by simp [h.l], fun a ha => ?_, fun a ha => ?_, h.hb, h.ha⟩, hk.mono fun j hj => ?_, fun b cs t hb h1 h2 => hb.kp hk (n1 b cs t hb h1 h2)⟩
  · rw [List.length_append, List.length_singleton] at ha
    rcases (show a < r1s.length ∨ a = r1s.length by omega) with h3 | h3
    · rw [getD_append_lt h3]
      exact (h.rc a h3).kp hk (n1 _ _ _ (h.rc a h3) (by decide) (by decide))
    · rw [getD_append_eq h3, h3]; exact h1
  · rw [List.length_append, List.length_singleton] at ha
    rcases (show a < r1s.length ∨ a = r1s.length by omega) with h3 | h3
    · rw [getD_append_lt (by rw [h.l]; exact h3)]
      exact (h.re a h3).kp hk (n1 _ _ _ (h.re a h3) (by decide) (by decide))
    · rw [getD_append_eq (by rw [h.l]; exact h3), h3]; exact h2
  · rcases hj with rfl | h3 | h3
    · exact h.hb
    · exact (h.c.lt h3).1
    · exact (h.e.lt h3).1
/-- A cost, read. -/
theorem TT.cost (h : TT w N bt o A cf fs ord least p cv ev r1s r2s) {a j : Nat} (ha : a < r1s.length) (hj : j ≤ fs.length) :
    ∃ g cap, cv = .slice (some ⟨g, 0, none⟩) r1s.length cap ∧ r1s.length ≤ cap ∧ w.cell? ⟨g, a, none⟩ = some (.slice (some ⟨r1s.getD a 0, 0, none⟩) (fs.length + 1) (fs.length + 1)) ∧ w.cell? ⟨r1s.getD a 0, j, none⟩ = some (.int .i64 ((crowF (sF fs ord) least p fs.length a).getD j 0)) := by
  obtain ⟨g, cap, e1, e2, _, e3⟩ := h.c.get (sls_get (fs.length + 1) r1s ha)
  rw [sls_length] at e1 e2
  exact ⟨g, cap, e1, e2, e3, (h.rc a ha).at_ (ints_get _ (by unfold crowF; rw [crow_length]; omega))⟩
theorem TT.centre (h : TT w N bt o A cf fs ord least p cv ev r1s r2s) {a j : Nat} (ha : a < r1s.length) (hj : j ≤ fs.length) :
    ∃ g cap, ev = .slice (some ⟨g, 0, none⟩) r1s.length cap ∧ r1s.length ≤ cap ∧ w.cell? ⟨g, a, none⟩ = some (.slice (some ⟨r2s.getD a 0, 0, none⟩) (fs.length + 1) (fs.length + 1)) ∧ w.cell? ⟨r2s.getD a 0, j, none⟩ = some (.int .i64 ((erowF (sF fs ord) p fs.length a).getD j 0)) := by
  obtain ⟨g, cap, e1, e2, _, e3⟩ := h.e.get (sls_get (fs.length + 1) r2s (show a < r2s.length by rw [h.l]; exact ha))
  rw [sls_length, h.l] at e1 e2
  exact ⟨g, cap, e1, e2, e3, (h.re a ha).at_ (ints_get _ (by unfold erowF; rw [erow_length]; omega))⟩
end
/-! ### The order of the fleeces; the errors that come first -/
def ordF (fs : List Fl) : List Int := srt (fcf fs) (upto fs.length)
def errE (fs : List Fl) (l least p : Int) : Int := if 128 < fs.length then 3 else if spOK l least p = true ∧ fs.all flOK = true then 0 else 2
/-- What the laying of the table answers. -/
def LaidPost (fs : List Fl) (A : Option Addr) (cf : Nat) (l least p : Int) (w : World) (e : Ending) (w' : World) : Prop :=
  Below w.heap.size w w' ∧ if errE fs l least p = 0 then ∃ (bt o : Nat) (cv ev : Value) (r1s r2s : List Nat), e = .returned (.tuple #[.pointer (some ⟨bt, 0, none⟩), .int .i64 0]) ∧ TT w' w.heap.size bt o A cf fs (ordF fs) least p cv ev r1s r2s ∧ r1s.length = fs.length
  else e = .returned (.tuple #[.pointer none, .int .i64 (errE fs l least p)])
end Go.Proofs.Ythkfahkkcjagdaa
end
section
namespace Go.Proofs.Ythkfahkkcjagdaa
open Go.RowKit Go.Proofs.YthkfahkkcjagdaaW.PrintWords Go.Proofs.YthkfahkkcjagdaaW.PrintMore Go.Proofs.YthkfahkkcjagdaaW.PrintLast

/-! ### The order -/
def keyK (a : Fl) : Int := ((a.k0 * 256 + a.k1) * 256 + a.k2) * 256 + a.k3
theorem kcmp_key {a b : Fl} (ha : kOK a) (hb : kOK b) : kcmp a b = cmpI (keyK a) (keyK b) := by
  obtain ⟨⟨a0, a1⟩, ⟨a2, a3⟩, ⟨a4, a5⟩, a6, a7⟩ := ha
  obtain ⟨⟨b0, b1⟩, ⟨b2, b3⟩, ⟨b4, b5⟩, b6, b7⟩ := hb
  unfold kcmp keyK cmpI
  split
  · split
    · split
      · split
        · rw [if_neg (by omega), if_neg (by omega)]
        · split
          · rw [if_pos (by omega)]
          · rw [if_neg (by omega), if_pos (by omega)]
      · split
        · rw [if_pos (by omega)]
        · rw [if_neg (by omega), if_pos (by omega)]
    · split
      · rw [if_pos (by omega)]
      · rw [if_neg (by omega), if_pos (by omega)]
  · split
    · rw [if_pos (by omega)]
    · rw [if_neg (by omega), if_pos (by omega)]
theorem sameK_key {a b : Fl} (ha : kOK a) (hb : kOK b) : sameK a b = true ↔ keyK a = keyK b := by
  obtain ⟨⟨a0, a1⟩, ⟨a2, a3⟩, ⟨a4, a5⟩, a6, a7⟩ := ha
  obtain ⟨⟨b0, b1⟩, ⟨b2, b3⟩, ⟨b4, b5⟩, b6, b7⟩ := hb
  unfold sameK keyK
  rw [decide_eq_true_eq]
  omega
theorem fcmp_key {a b : Fl} (ha : kOK a) (hb : kOK b) : fcmp a b = if keyK a = keyK b then cmpI a.mic b.mic else cmpI (keyK a) (keyK b) := by
  unfold fcmp
  rw [kcmp_key ha hb]
  unfold cmpI
  (repeat' split) <;> omega
def KOK (fs : List Fl) : Prop := ∀ f ∈ fs, kOK f
theorem KOK.rd {fs : List Fl} (h : KOK fs) (x : Int) : kOK (rdF fs x) := by
  unfold rdF
  rw [List.getD_eq_getElem?_getD]
  rcases Nat.lt_or_ge x.toNat fs.length with h1 | h1
  · rw [List.getElem?_eq_getElem h1]
    exact h _ (List.getElem_mem h1)
  · rw [List.getElem?_eq_none h1]
    exact ⟨⟨by decide, by decide⟩, ⟨by decide, by decide⟩, ⟨by decide, by decide⟩, by decide, by decide⟩
theorem fcf_law {fs : List Fl} (h : KOK fs) : CmpLaw (fcf fs) := by
  refine ⟨fun x y => ?_, fun x y z => ?_⟩
  · unfold fcf
    rw [fcmp_key (h.rd x) (h.rd y), fcmp_key (h.rd y) (h.rd x)]
    unfold cmpI
    (repeat' split) <;> omega
  · unfold fcf
    rw [fcmp_key (h.rd x) (h.rd y), fcmp_key (h.rd y) (h.rd z), fcmp_key (h.rd x) (h.rd z)]
    generalize keyK (rdF fs x) = a
    generalize keyK (rdF fs y) = b
    generalize keyK (rdF fs z) = c
    unfold cmpI
    intro h1 h2
    split at h1 <;> split at h2 <;> split <;> (repeat' split at h1) <;> (repeat' split at h2) <;> (repeat' split) <;> omega
theorem ordF_perm (fs : List Fl) : (ordF fs).Perm (upto fs.length) := srt_perm' _ _
theorem ordF_length (fs : List Fl) : (ordF fs).length = fs.length := by rw [(ordF_perm fs).length_eq, upto_length]
theorem ordF_mem {fs : List Fl} {x : Int} (h : x ∈ ordF fs) : 0 ≤ x ∧ x < fs.length := (upto_mem _ x).1 ((ordF_perm fs).mem_iff.1 h)
/-- In the order a kind's diameters do not fall. -/
theorem ordF_sorted {fs : List Fl} (h : KOK fs) : SRT (sF fs (ordF fs)) fs.length := by
  intro a b hab hb hk
  have hpw := srt_ahd (fcf_law h) (upto fs.length) (upto_pw _)
  have hl : (srt (fcf fs) (upto fs.length)).length = fs.length := ordF_length fs
  have h1 := List.pairwise_iff_getElem.1 hpw a b (by omega) (by omega) hab
  have e1 : ∀ i (hi : i < (srt (fcf fs) (upto fs.length)).length), (srt (fcf fs) (upto fs.length))[i]'hi = (ordF fs).getD i 0 := fun i hi => by
    unfold ordF
    rw [List.getD_eq_getElem?_getD, List.getElem?_eq_getElem hi]; rfl
  rw [e1 a (by omega), e1 b (by omega)] at h1
  have h2 : fcmp (sF fs (ordF fs) a) (sF fs (ordF fs) b) ≤ 0 := by
    rcases h1 with h1 | h1
    · exact Int.le_of_lt h1
    · exact Int.le_of_eq h1.1
  have ka : kOK (sF fs (ordF fs) a) := h.rd _
  have kb : kOK (sF fs (ordF fs) b) := h.rd _
  rw [fcmp_key ka kb, if_pos ((sameK_key ka kb).1 hk)] at h2
  unfold cmpI at h2
  split at h2
  · omega
  · split at h2 <;> omega
theorem all_rd {fs : List Fl} (h : fs.all flOK = true) {x : Int} (h0 : 0 ≤ x) (h1 : x < fs.length) : flOK (rdF fs x) = true := by
  unfold rdF
  rw [List.getD_eq_getElem?_getD, List.getElem?_eq_getElem (show x.toNat < fs.length by omega)]
  exact List.all_eq_true.1 h _ (List.getElem_mem _)
theorem ordF_SOK {fs : List Fl} (h : fs.all flOK = true) : SOK (sF fs (ordF fs)) fs.length := by
  intro k hk
  have hm := ordF_mem (getD_mem (l := ordF fs) (i := k) (by rw [ordF_length]; exact hk))
  have := all_rd h hm.1 hm.2
  unfold flOK at this
  rw [decide_eq_true_eq] at this
  exact ⟨⟨this.1, this.2.1⟩, this.2.2.1, this.2.2.2⟩
end Go.Proofs.Ythkfahkkcjagdaa
end
section
namespace Go.Proofs.Ythkfahkkcjagdaa
open Go.RowKit Go.Proofs.YthkfahkkcjagdaaW.PrintWords Go.Proofs.YthkfahkkcjagdaaW.PrintMore Go.Proofs.YthkfahkkcjagdaaW.PrintLast

def omin : Option Int → Option Int → Option Int
  | none, b => b
  | some x, none => some x
  | some x, some y => some (min x y)
def addO : Option Int → Option Int → Option Int
  | some x, some y => some (x + y)
  | _, _ => none
def minO (f : Nat → Option Int) : Nat → Option Int
  | 0 => none
  | m + 1 => omin (minO f m) (f m)
/-- The least cost of the fleeces from i on in exactly k lines. -/
def restO (s : Nat → Fl) (least p : Int) (n : Nat) : Nat → Nat → Option Int
  | 0, i => if i = n then some 0 else none
  | k + 1, i => minO (fun d => addO (cO s least p i (d + 1)) (restO s least p n k (i + d + 1))) (n - i)
theorem minO_le (f : Nat → Option Int) : ∀ (m : Nat) (v : Int), minO f m = some v → (∃ d, d < m ∧ f d = some v) ∧ ∀ d x, d < m → f d = some x → v ≤ x
  | 0, v, h => by simp [minO] at h
  | m + 1, v, h => by
    unfold minO at h
    cases h1 : minO f m with
    | none =>
      rw [h1] at h
      have h2 : f m = some v := h
      refine ⟨⟨m, by omega, h2⟩, fun d x hd hx => ?_⟩
      rcases (show d < m ∨ d = m by omega) with h3 | rfl
      · have key : ∀ k, k ≤ m → minO f k = none → ∀ d, d < k → f d = none := by
          intro k
          induction k with
          | zero => intro _ _ d hd; omega
          | succ k ih =>
            intro hk hn d hd
            unfold minO at hn
            cases h5 : minO f k with
            | none =>
              rw [h5] at hn
              rcases (show d < k ∨ d = k by omega) with h6 | rfl
              · exact ih (by omega) h5 d h6
              · exact hn
            | some y => rw [h5] at hn; cases h7 : f k <;> rw [h7] at hn <;> simp [omin] at hn
        rw [key m (Nat.le_refl _) h1 d h3] at hx; cases hx
      · rw [h2] at hx; cases hx; exact Int.le_refl _
    | some y =>
      rw [h1] at h
      have ih := minO_le f m y h1
      cases h2 : f m with
      | none =>
        rw [h2] at h
        have : y = v := by simpa [omin] using h
        subst this
        refine ⟨?_, fun d x hd hx => ?_⟩
        · obtain ⟨⟨d, hd, e⟩, _⟩ := ih; exact ⟨d, by omega, e⟩
        · rcases (show d < m ∨ d = m by omega) with h3 | rfl
          · exact ih.2 d x h3 hx
          · rw [h2] at hx; cases hx
      | some z =>
        rw [h2] at h
        have : min y z = v := by simpa [omin] using h
        subst this
        refine ⟨?_, fun d x hd hx => ?_⟩
        · rcases (show y ≤ z ∨ z < y by omega) with h3 | h3
          · obtain ⟨⟨d, hd, e⟩, _⟩ := ih
            exact ⟨d, by omega, by rw [e]; congr 1; omega⟩
          · exact ⟨m, by omega, by rw [h2]; congr 1; omega⟩
        · rcases (show d < m ∨ d = m by omega) with h3 | rfl
          · have := ih.2 d x h3 hx; omega
          · rw [h2] at hx; cases hx; omega
section
variable {s : Nat → Fl} {least p : Int} {n : Nat}
theorem cO_bd (h : SOK s n) {i d : Nat} (hd : 0 < d) (hn : i + d ≤ n) {v : Int} (hv : cO s least p i d = some v) : 0 ≤ v ∧ v ≤ d * 10736344498176 := by
  unfold cO at hv
  split at hv
  · cases hv
    have hm := (med_spec h hd hn).2.2
    have := costD_bd h i (m := cen s i d) (h (i + med s i d) (by omega)).1 d hn
    exact this
  · cases hv
theorem restO_bd (h : SOK s n) : ∀ (k i : Nat) (v : Int), i ≤ n → restO s least p n k i = some v → 0 ≤ v ∧ v ≤ ((n : Int) - i) * 10736344498176
  | 0, i, v, hi, hv => by
    unfold restO at hv
    split at hv
    · cases hv; rename_i e; subst e; omega
    · cases hv
  | k + 1, i, v, hi, hv => by
    unfold restO at hv
    obtain ⟨⟨d, hd, e⟩, _⟩ := minO_le _ _ _ hv
    cases h1 : cO s least p i (d + 1) with
    | none => rw [h1] at e; simp [addO] at e
    | some x =>
      cases h2 : restO s least p n k (i + d + 1) with
      | none => rw [h1, h2] at e; simp [addO] at e
      | some y =>
        rw [h1, h2] at e
        have e' : x + y = v := by simpa [addO] using e
        have a := cO_bd h (by omega) (by omega) h1
        have b := restO_bd h k (i + d + 1) y (by omega) h2
        omega
end
/-- The row of the least costs in k lines; and while the place i is being reckoned. -/
def lrow (s : Nat → Fl) (least p : Int) (n k : Nat) : List Int := (List.range (n + 1)).map fun i => pE (restO s least p n k i)
def lpart (s : Nat → Fl) (least p : Int) (n k i d : Nat) : List Int := (List.range (n + 1)).map fun x => if x < i then pE (restO s least p n (k + 1) x) else if x = i then pE (minO (fun d => addO (cO s least p i (d + 1)) (restO s least p n k (i + d + 1))) d) else 4611686018427387904
section
variable (s : Nat → Fl) (least p : Int) (n k i d : Nat)
theorem lrow_length : (lrow s least p n k).length = n + 1 := by simp [lrow]
theorem lpart_length : (lpart s least p n k i d).length = n + 1 := by simp [lpart]
theorem lrow_get {j : Nat} (h : j ≤ n) : (lrow s least p n k).getD j 0 = pE (restO s least p n k j) := range_map_get _ (by omega)
theorem lpart_get (h : i ≤ n) : (lpart s least p n k i d).getD i 0 = pE (minO (fun d => addO (cO s least p i (d + 1)) (restO s least p n k (i + d + 1))) d) := by
  unfold lpart
  rw [range_map_get _ (by omega), if_neg (by omega), if_pos rfl]
theorem lpart_zero : lpart s least p n k 0 0 = List.replicate (n + 1) 4611686018427387904 := by
  refine List.ext_getElem? fun j => ?_
  unfold lpart
  rw [List.getElem?_map, List.getElem?_replicate]
  by_cases hj : j < n + 1
  · rw [List.getElem?_range hj, if_pos hj]
    simp only [Option.map_some]
    rw [if_neg (by omega)]
    split
    · rfl
    · rfl
  · rw [if_neg hj, List.getElem?_eq_none (by simp; omega)]; rfl
theorem lpart_step (h : i ≤ n) : (lpart s least p n k i d).set i (pE (minO (fun d => addO (cO s least p i (d + 1)) (restO s least p n k (i + d + 1))) (d + 1))) = lpart s least p n k i (d + 1) := by
  unfold lpart
  refine map_set_range _ _ _ _ _ (by omega) ?_ fun j hj hne => ?_
  · rw [if_neg (by omega), if_pos rfl]
  · by_cases h1 : j < i
    · rw [if_pos h1, if_pos h1]
    · rw [if_neg h1, if_neg h1, if_neg hne, if_neg hne]
theorem lpart_same (h : addO (cO s least p i (d + 1)) (restO s least p n k (i + d + 1)) = none) : lpart s least p n k i d = lpart s least p n k i (d + 1) := by
  unfold lpart
  refine List.map_congr_left fun j _ => ?_
  by_cases h1 : j < i
  · rw [if_pos h1, if_pos h1]
  · rw [if_neg h1, if_neg h1]
    by_cases h2 : j = i
    · rw [if_pos h2, if_pos h2]
      show _ = pE (omin _ (addO (cO s least p i (d + 1)) (restO s least p n k (i + d + 1))))
      rw [h]
      cases minO (fun d => addO (cO s least p i (d + 1)) (restO s least p n k (i + d + 1))) d <;> rfl
    · rw [if_neg h2, if_neg h2]
theorem lpart_next (_ : i < n) : lpart s least p n k i (n - i) = lpart s least p n k (i + 1) 0 := by
  unfold lpart
  refine List.map_congr_left fun j _ => ?_
  rcases Nat.lt_trichotomy j i with h | h | h
  · rw [if_pos h, if_pos (by omega)]
  · rw [if_neg (by omega), if_pos h, if_pos (by omega), h]; rfl
  · rw [if_neg (by omega), if_neg (by omega), if_neg (by omega)]
    split
    · rfl
    · rfl
theorem lpart_last : lpart s least p n k n 0 = lrow s least p n (k + 1) := by
  unfold lpart lrow
  refine List.map_congr_left fun j hj => ?_
  have hj : j < n + 1 := List.mem_range.1 hj
  by_cases h : j < n
  · rw [if_pos h]
  · rw [if_neg h, if_pos (by omega), show j = n by omega]
    show _ = pE (minO (fun d => addO (cO s least p n (d + 1)) (restO s least p n k (n + d + 1))) (n - n))
    rw [Nat.sub_self]
theorem lrow_zero : (List.replicate (n + 1) (4611686018427387904 : Int)).set n 0 = lrow s least p n 0 := by
  have e : List.replicate (n + 1) (4611686018427387904 : Int) = (List.range (n + 1)).map fun _ => 4611686018427387904 := by
    refine List.ext_getElem? fun j => ?_
    rw [List.getElem?_map, List.getElem?_replicate]
    by_cases hj : j < n + 1
    · rw [List.getElem?_range hj, if_pos hj]; rfl
    · rw [if_neg hj, List.getElem?_eq_none (by simp; omega)]; rfl
  rw [e]
  unfold lrow
  refine map_set_range _ _ _ _ _ (by omega) ?_ fun j hj hne => ?_
  · unfold restO; rw [if_pos rfl]; rfl
  · unfold restO; rw [if_neg hne]; rfl
end
theorem pE_lt {o : Option Int} {b : Int} (h : ∀ v, o = some v → 0 ≤ v ∧ v ≤ b) (hb : b < 4611686018427387904) : pE o < 4611686018427387904 ↔ o ≠ none := by
  cases o with
  | none => simp [pE]
  | some v => have := h v rfl; simp [pE]; omega
end Go.Proofs.Ythkfahkkcjagdaa
end
section
namespace Go.Proofs.Ythkfahkkcjagdaa
open Go.RowKit Go.Proofs.YthkfahkkcjagdaaW.PrintWords Go.Proofs.YthkfahkkcjagdaaW.PrintMore Go.Proofs.YthkfahkkcjagdaaW.PrintLast
attribute [local go_sem] max2_int min2_int

theorem fill_set2 (n j : Nat) (v : Int) (h : j < n) : (List.replicate j v ++ List.replicate (n - j) 0).set j v = List.replicate (j + 1) v ++ List.replicate (n - (j + 1)) 0 := by
  rw [List.set_append_right _ _ (by simp), List.length_replicate, Nat.sub_self, show n - j = (n - (j + 1)) + 1 by omega, List.replicate_succ, List.set_cons_zero, List.replicate_succ', List.append_assoc]
  rfl
/-- The rows that are done: their blocks, and the row of their slices. -/
structure LS (w wr : World) (bo m n : Nat) (row : Nat → List Int) (rs : List Nat) : Prop where
  b : Below w.heap.size w wr
  o : Blk wr bo (sls (n + 1) rs ++ List.replicate (m - rs.length) (.slice none 0 0)) 35
  rr : ∀ a, a < rs.length → Blk wr (rs.getD a 0) (ints (row a)) 3
  rb : ∀ a, a < rs.length → w.heap.size ≤ rs.getD a 0
  ob : w.heap.size ≤ bo
/-- And one row under way. -/
structure LR (w wr : World) (bo m n : Nat) (row : Nat → List Int) (rs : List Nat) (r : Nat) (cur : List Int) : Prop where
  b : Below w.heap.size w wr
  o : Blk wr bo (sls (n + 1) (rs ++ [r]) ++ List.replicate (m - (rs ++ [r]).length) (.slice none 0 0)) 35
  rr : ∀ a, a < rs.length → Blk wr (rs.getD a 0) (ints (row a)) 3
  rb : ∀ a, a < rs.length → w.heap.size ≤ rs.getD a 0
  ob : w.heap.size ≤ bo
  c : Blk wr r (ints cur) 3
  ne : ∀ a, a < rs.length → rs.getD a 0 ≠ r
  cb : w.heap.size ≤ r
section
variable {w wr : World} {bo m n r : Nat} {row : Nat → List Int} {rs : List Nat} {cur : List Int}
theorem LR.set (h : LR w wr bo m n row rs r cur) (j : Nat) (v : Int) : LR w (wr.setCell ⟨r, j, none⟩ (.int .i64 v)) bo m n row rs r (cur.set j v) := by
  have k : Kp (fun k => k = r) wr (wr.setCell ⟨r, j, none⟩ (.int .i64 v)) := (Kp.refl (fun k => k = r) wr).setCell (p := ⟨r, j, none⟩) (fun _ => rfl) _
  refine { h with b := h.b.setCell h.cb _, o := h.o.kp k (h.o.ne_of_type h.c (by decide)), rr := fun a ha => (h.rr a ha).kp k (h.ne a ha), c := ?_ }
  have := h.c.set j (.int .i64 v)
  rwa [ints_set] at this
theorem LR.drew (h : LR w wr bo m n row rs r cur) : LR w wr.drew bo m n row rs r cur :=
  { h with b := below_drew h.b, o := h.o.drew, rr := fun a ha => (h.rr a ha).drew, c := h.c.drew }
theorem LR.done (h : LR w wr bo m n row rs r cur) (hc : cur = row rs.length) : LS w wr bo m n row (rs ++ [r]) := by
  refine ⟨h.b, h.o, fun a ha => ?_, fun a ha => ?_, h.ob⟩
  · rw [List.length_append, List.length_singleton] at ha
    rcases (show a < rs.length ∨ a = rs.length by omega) with h3 | h3
    · rw [getD_append_lt h3]; exact h.rr a h3
    · rw [getD_append_eq h3, h3, ← hc]; exact h.c
  · rw [List.length_append, List.length_singleton] at ha
    rcases (show a < rs.length ∨ a = rs.length by omega) with h3 | h3
    · rw [getD_append_lt h3]; exact h.rb a h3
    · rw [getD_append_eq h3]; exact h.cb
/-- A row is made and hung in. -/
theorem LS.hang (h : LS w wr bo m n row rs) (hm : rs.length < m) :
    LR w ((wr.alloc (.cells (ints (List.replicate (n + 1) 0)).toArray 3)).setCell ⟨bo, rs.length, none⟩ (.slice (some ⟨wr.heap.size, 0, none⟩) (n + 1) (n + 1))) bo m n row rs wr.heap.size (List.replicate (n + 1) 0) := by
  have hb := below_alloc (Below.refl wr.heap.size wr) (.cells (ints (List.replicate (n + 1) 0)).toArray 3)
  have ho := h.o.below hb
  have hc := Blk.new wr (ints (List.replicate (n + 1) 0)) 3
  have k : Kp (fun k => k = bo) (wr.alloc (.cells (ints (List.replicate (n + 1) 0)).toArray 3)) ((wr.alloc (.cells (ints (List.replicate (n + 1) 0)).toArray 3)).setCell ⟨bo, rs.length, none⟩ (.slice (some ⟨wr.heap.size, 0, none⟩) (n + 1) (n + 1))) :=
    (Kp.refl (fun k => k = bo) _).setCell (p := ⟨bo, rs.length, none⟩) (fun _ => rfl) _
  refine ⟨(below_step h.b hb).setCell h.ob _, ?_, fun a ha => ((h.rr a ha).below hb).kp k (((h.rr a ha).below hb).ne_of_type ho (by decide)), h.rb, h.ob, hc.kp k (hc.ne_of_type ho (by decide)), fun a ha => ?_, h.b.size⟩
  · have := ho.set rs.length (.slice (some ⟨wr.heap.size, 0, none⟩) (n + 1) (n + 1))
    have e : (sls (n + 1) rs ++ List.replicate (m - rs.length) (Value.slice none 0 0)).set rs.length (.slice (some ⟨wr.heap.size, 0, none⟩) (n + 1) (n + 1)) = sls (n + 1) (rs ++ [wr.heap.size]) ++ List.replicate (m - (rs ++ [wr.heap.size]).length) (.slice none 0 0) := by
      rw [List.set_append_right _ _ (by rw [sls_length]; omega), sls_length, Nat.sub_self, show m - rs.length = (m - (rs ++ [wr.heap.size]).length) + 1 by simp; omega, List.replicate_succ, List.set_cons_zero]
      simp [sls]
    rw [e] at this
    exact this
  · have := (h.rr a ha).lt; omega
theorem LR.row_at (h : LR w wr bo m n row rs r cur) {a : Nat} (ha : a < rs.length) : wr.cell? ⟨bo, a, none⟩ = some (.slice (some ⟨rs.getD a 0, 0, none⟩) (n + 1) (n + 1)) := by
  refine h.o.at_ ?_
  rw [List.getElem?_append_left (by rw [sls_length]; simp; omega), sls_get _ _ (by simp; omega), getD_append_lt ha]
theorem LR.own (h : LR w wr bo m n row rs r cur) : wr.cell? ⟨bo, rs.length, none⟩ = some (.slice (some ⟨r, 0, none⟩) (n + 1) (n + 1)) := by
  refine h.o.at_ ?_
  rw [List.getElem?_append_left (by rw [sls_length]; simp), sls_get _ _ (by simp), getD_append_eq rfl]
theorem LS.row_at (h : LS w wr bo m n row rs) {a : Nat} (ha : a < rs.length) : wr.cell? ⟨bo, a, none⟩ = some (.slice (some ⟨rs.getD a 0, 0, none⟩) (n + 1) (n + 1)) := by
  refine h.o.at_ ?_
  rw [List.getElem?_append_left (by rw [sls_length]; exact ha), sls_get _ _ ha]
theorem LS.below {w2 : World} (h : LS w wr bo m n row rs) (k : Below wr.heap.size wr w2) : LS w w2 bo m n row rs :=
  { h with b := below_step h.b k, o := h.o.below k, rr := fun a ha => (h.rr a ha).below k }
end
theorem made_nils (n : Nat) : madeCells #[.slice none 0 0] n = (List.replicate n (Value.slice none 0 0)).toArray := by
  apply Array.toList_inj.1
  rw [toList_madeCells_one]
theorem info35l : (Try.prog.info? 35).map (fun i => (i.zero, i.size, i.bytes)) = some (some (.slice none 0 0), 1, 24) := by kernel_rfl
/-- What the table of the least costs is. -/
def LeastPost (w : World) (s : Nat → Fl) (least p : Int) (n most : Nat) (e : Ending) (w' : World) : Prop :=
  ∃ (bo : Nat) (rs : List Nat), e = .returned (.slice (some ⟨bo, 0, none⟩) (most + 1) (most + 1)) ∧ LS w w' bo (most + 1) n (lrow s least p n) rs ∧ rs.length = most + 1

set_option maxHeartbeats 8000000 in
set_option maxRecDepth 100000 in
theorem least_any (w : World) (N bt o : Nat) (A : Option Addr) (cf : Nat) (fs : List Fl) (ord : List Int) (least p : Int) (cv ev : Value) (r1s r2s : List Nat) (h : TT w N bt o A cf fs ord least p cv ev r1s r2s) (hl : r1s.length = fs.length) (hn : fs.length ≤ 128) (hs : SOK (sF fs ord) fs.length) (most : Nat) (hm : most ≤ 16) :
    Calls Try.prog 62 #[.pointer (some ⟨bt, 0, none⟩), .int .i64 most] w (LeastPost w (sF fs ord) least p fs.length most) := by
  have c1 := h.tb.t.at_ (i := 1) rfl
  have HT := Aside0.mk (And.intro h hl); clear h hl
  have HS := Aside0.mk hs; clear hs
  obtain ⟨n, hn0⟩ : ∃ z, z = fs.length := ⟨_, rfl⟩
  have mk1 := print_make (P := Try.prog) 35 3 .i64 8 Try.underlying35 info3 (by decide) (n + 1) (by omega)
  rw [show ((n + 1 : Nat) : Int) = (n : Int) + 1 by omega] at mk1
  have mk2 := print_make_of (P := Try.prog) 101 35 (.slice none 0 0) 24 Try.underlying101 info35l rfl (by decide) (most + 1) (by omega)
  rw [show ((most + 1 : Nat) : Int) = (most : Int) + 1 by omega] at mk2
  rw [← hn0] at c1 hn ⊢
  have HN := Aside0.mk hn0; clear hn0
  go_enter Try.func62, Try.ntmps62
  go_upto_region 2 with fail
  go_wp2_with fail
  rw [made_nils]
  have h0 : LS w (w.alloc (.cells (List.replicate (most + 1) (Value.slice none 0 0)).toArray 35)) w.heap.size (most + 1) n (lrow (sF fs ord) least p n) [] :=
    ⟨below_alloc (Below.refl _ _) _, Blk.new w (List.replicate (most + 1) (Value.slice none 0 0)) 35, fun a ha => by simp at ha, fun a ha => by simp at ha, Nat.le_refl _⟩
  generalize (w.alloc (.cells (List.replicate (most + 1) (Value.slice none 0 0)).toArray 35)) = w2 at h0 ⊢
  obtain ⟨bo, hbo⟩ : ∃ z, z = w.heap.size := ⟨_, rfl⟩
  rw [← hbo] at h0 ⊢
  clear hbo c1 mk2
  have H0 := Aside0.mk h0; clear h0
  go_loopw [7, 21] (fun _ v wr => ∃ (k : Nat) (rs : List Nat), v = .int .i64 k ∧ k ≤ most + 1 ∧ Aside0 (rs.length = k ∧ LS w wr bo (most + 1) n (lrow (sF fs ord) least p n) rs)) (fun _ v _ => most + 1 - (intOf v).toNat)
  case atStart => exact ⟨0, [], rfl, by omega, ⟨rfl, H0.out⟩⟩
  case round =>
    obtain ⟨k, rs, rfl, hk, HK⟩ := hrel
    clear H0
    by_cases hlt : k < most + 1
    · have hlti : (k : Int) < (most : Int) + 1 := by omega
      have cb : ∀ X, (wr.alloc X).cell? ⟨bo, k, none⟩ = some (.slice none 0 0) := fun X => (HK.out.2.o.alloc X).at_ (by have := HK.out.1; rw [List.getElem?_append_right (by rw [sls_length]; omega), List.getElem?_replicate, if_pos (by rw [sls_length]; omega)])
      have fb : ∀ X i, (wr.alloc X).frozen? ⟨bo, i, none⟩ = false := fun X => (HK.out.2.o.alloc X).free
      go_upto_region 7 with fail
      clear cb fb
      rw [made_ints]
      have h5 := HK.out.2.hang (by rw [HK.out.1]; exact hlt)
      rw [HK.out.1] at h5
      generalize ((wr.alloc (.cells (ints (List.replicate (n + 1) 0)).toArray 3)).setCell ⟨bo, k, none⟩ (.slice (some ⟨wr.heap.size, 0, none⟩) (n + 1) (n + 1))) = w5 at h5 ⊢
      obtain ⟨r, hr⟩ : ∃ z, z = wr.heap.size := ⟨_, rfl⟩
      rw [← hr] at h5
      have c5 := h5.own
      rw [HK.out.1] at c5
      have H5 := Aside0.mk h5; clear h5
      have HKL := Aside0.mk HK.out.1
      clear hr HK
      go_wp2_with fail
      go_loopw [8, 35] (fun _ v wr => ∃ j : Nat, v = .int .i64 j ∧ j ≤ n + 1 ∧ Aside0 (LR w wr bo (most + 1) n (lrow (sF fs ord) least p n) rs r (List.replicate j 4611686018427387904 ++ List.replicate (n + 1 - j) 0))) (fun _ v _ => n + 1 - (intOf v).toNat)
      case atStart => exact ⟨0, rfl, by omega, ⟨by simpa using H5.out⟩⟩
      case round =>
        obtain ⟨j, rfl, hj, HJ⟩ := hrel
        have c6 := HJ.out.own
        rw [HKL.out] at c6
        by_cases hlj : j < n + 1
        · have hlji : (j : Int) < (n : Int) + 1 := by omega
          have hjl : j < (List.replicate j (4611686018427387904 : Int) ++ List.replicate (n + 1 - j) 0).length := by simp; omega
          have f1 := HJ.out.c.at_ (ints_get _ hjl)
          have f2 := HJ.out.c.free j
          clear hjl
          go_wp2_with fail
          go_roundw
          case rel =>
            refine ⟨j + 1, by go_num, by omega, ⟨?_⟩⟩
            have := HJ.out.set j 4611686018427387904
            rw [fill_set2 _ _ _ hlj] at this
            exact this
          case measure => simp [intOf]; omega
        · have hlji : ¬ (j : Int) < (n : Int) + 1 := by omega
          have h6 : LR w wr bo (most + 1) n (lrow (sF fs ord) least p n) rs r (List.replicate (n + 1) 4611686018427387904) := by
            have := HJ.out
            rw [show j = n + 1 by omega, Nat.sub_self] at this
            simpa using this
          have H6 := Aside0.mk h6; clear h6 HJ H5 c5
          by_cases hk0 : k = 0
          · subst hk0
            have f1 := H6.out.c.at_ (ints_get (List.replicate (n + 1) 4611686018427387904) (i := n) (by simp))
            have f2 := H6.out.c.free n
            go_wp2_with fail
            go_roundw
            case rel =>
              refine ⟨1, rs ++ [r], by go_num, by omega, ⟨by rw [List.length_append, HKL.out]; rfl, ?_⟩⟩
              have := H6.out.set n 0
              rw [lrow_zero (sF fs ord) least p] at this
              exact this.done (by rw [HKL.out])
            case measure => simp [intOf]
          · obtain ⟨k', rfl⟩ : ∃ k', k = k' + 1 := ⟨k - 1, by omega⟩
            have hk1 : ((((k' + 1 : Nat)) : Int) == 0) = false := by simp; omega
            have h7 : LR w wr bo (most + 1) n (lrow (sF fs ord) least p n) rs r (lpart (sF fs ord) least p n k' 0 0) := by rw [lpart_zero]; exact H6.out
            have H7 := Aside0.mk h7; clear h7 H6
            go_wp2_with fail
            go_loopw [9, 10, 53] (fun _ _ v wr => ∃ i : Nat, v = .int .i64 i ∧ i ≤ n ∧ Aside0 (LR w wr bo (most + 1) n (lrow (sF fs ord) least p n) rs r (lpart (sF fs ord) least p n k' i 0))) (fun _ _ v _ => n - (intOf v).toNat)
            case atStart => exact ⟨0, rfl, by omega, H7⟩
            case round =>
              obtain ⟨i, rfl, hi, HI⟩ := hrel
              clear H7
              by_cases hli : i < n
              · have hlii : (i : Int) < n := by omega
                go_wp2_with fail
                go_loopw [10] (fun v wr => ∃ d : Nat, v = .int .i64 ((i : Int) + 1 + d) ∧ d ≤ n - i ∧ Aside0 (LR w wr bo (most + 1) n (lrow (sF fs ord) least p n) rs r (lpart (sF fs ord) least p n k' i d))) (fun v _ => n + 1 - (intOf v).toNat)
                case atStart => exact ⟨0, by go_num, by omega, HI⟩
                case round =>
                  obtain ⟨d, rfl, hd, HD⟩ := hrel
                  clear HI
                  by_cases hld : d < n - i
                  · have hldi : (i : Int) + 1 + d ≤ n := by omega
                    have ht := HT.out.1.below HD.out.b
                    obtain ⟨g, cap, ecv, hcap, g1, g2⟩ := ht.cost (a := i) (j := i + 1 + d) (by rw [HT.out.2, ← HN.out]; exact hli) (by rw [← HN.out]; omega)
                    rw [HT.out.2, ← HN.out] at ecv hcap
                    rw [← HN.out] at g1 g2
                    rw [show (crowF (sF fs ord) least p n i).getD (i + 1 + d) 0 = pE (cO (sF fs ord) least p i (d + 1)) by
                      unfold crowF
                      rw [crow_get _ _ _ _ _ _ (by omega), if_pos (by omega), show i + 1 + d - i = d + 1 by omega]] at g2
                    have ct := ht.tb.t.at_ (i := 2) rfl
                    have cr0 := HD.out.row_at (a := k') (by rw [HKL.out]; omega)
                    have cr1 := (HD.out.rr k' (by rw [HKL.out]; omega)).at_ (ints_get _ (show i + 1 + d < (lrow (sF fs ord) least p n k').length by rw [lrow_length]; omega))
                    rw [lrow_get _ _ _ _ _ (by omega), show i + 1 + d = i + d + 1 by omega] at cr1
                    have co := HD.out.own
                    rw [HKL.out] at co
                    have cc := HD.out.c.at_ (ints_get _ (show i < (lpart (sF fs ord) least p n k' i d).length by rw [lpart_length]; omega))
                    rw [lpart_get _ _ _ _ _ _ _ hi] at cc
                    have cf := HD.out.c.free i
                    have bx := fun v (h : cO (sF fs ord) least p i (d + 1) = some v) => cO_bd HS.out (by omega) (by rw [← HN.out]; omega) h
                    have by_ := fun v (h : restO (sF fs ord) least p n k' (i + d + 1) = some v) => restO_bd (n := n) (by rw [HN.out]; exact HS.out) k' (i + d + 1) v (by omega) h
                    have hx := pE_lt (b := 1374252095766528) (fun v h => ⟨(bx v h).1, by have := (bx v h).2; omega⟩) (by decide)
                    have hy := pE_lt (b := 1374252095766528) (fun v h => ⟨(by_ v h).1, by have := (by_ v h).2; omega⟩) (by decide)
                    obtain ⟨x, hxx⟩ : ∃ z, z = pE (cO (sF fs ord) least p i (d + 1)) := ⟨_, rfl⟩
                    obtain ⟨y, hyy⟩ : ∃ z, z = pE (restO (sF fs ord) least p n k' (i + d + 1)) := ⟨_, rfl⟩
                    obtain ⟨u, huu⟩ : ∃ z, z = pE (minO (fun d => addO (cO (sF fs ord) least p i (d + 1)) (restO (sF fs ord) least p n k' (i + d + 1))) d) := ⟨_, rfl⟩
                    rw [← hxx] at g2 hx
                    rw [← hyy] at cr1 hy
                    rw [← huu] at cc
                    obtain ⟨ri, hri⟩ : ∃ z, z = r1s.getD i 0 := ⟨_, rfl⟩
                    obtain ⟨rk, hrk⟩ : ∃ z, z = rs.getD k' 0 := ⟨_, rfl⟩
                    rw [← hri] at g1 g2
                    rw [← hrk] at cr0 cr1
                    clear hri hrk
                    have cr1b := cr1
                    rw [show i + d + 1 = i + 1 + d by omega] at cr1b
                    have HXY := Aside0.mk (And.intro hxx (And.intro hyy (And.intro huu (And.intro bx by_))))
                    subst ecv
                    clear bx by_ hxx hyy huu ht
                    by_cases hx1 : x < 4611686018427387904
                    · have hx2 := hx.1 hx1
                      have dx : decide (x < 4611686018427387904) = true := decide_eq_true hx1
                      by_cases hy1 : y < 4611686018427387904
                      · have hy2 := hy.1 hy1
                        have dy : decide (y < 4611686018427387904) = true := decide_eq_true hy1
                        have hnew : pE (minO (fun d => addO (cO (sF fs ord) least p i (d + 1)) (restO (sF fs ord) least p n k' (i + d + 1))) (d + 1)) = min u (x + y) ∧ (0 ≤ x ∧ x ≤ 1374252095766528) ∧ 0 ≤ y ∧ y ≤ 1374252095766528 := by
                          obtain ⟨a1, a2, a3, a4, a5⟩ := HXY.out
                          cases e1 : cO (sF fs ord) least p i (d + 1) with
                          | none => exact absurd e1 hx2
                          | some x' =>
                            cases e2 : restO (sF fs ord) least p n k' (i + d + 1) with
                            | none => exact absurd e2 hy2
                            | some y' =>
                              have b1 := a4 x' e1
                              have b2 := a5 y' e2
                              rw [e1] at a1
                              rw [e2] at a2
                              have f1 : x = x' := a1
                              have f2 : y = y' := a2
                              refine ⟨?_, by omega, by omega⟩
                              show pE (omin _ (addO (cO (sF fs ord) least p i (d + 1)) (restO (sF fs ord) least p n k' (i + d + 1)))) = _
                              rw [e1, e2, a3]
                              show pE (omin _ (some (x' + y'))) = _
                              rw [f1, f2]
                              cases minO (fun d => addO (cO (sF fs ord) least p i (d + 1)) (restO (sF fs ord) least p n k' (i + d + 1))) d with
                              | none => show x' + y' = min 4611686018427387904 (x' + y'); omega
                              | some z => rfl
                        obtain ⟨hnew, ⟨hx3, hx4⟩, hy3, hy4⟩ := hnew
                        have HNEW := Aside0.mk hnew
                        clear hx hy hx2 hy2 hnew
                        have q1 : k' < most := by omega
                        have q2 : (0 : Int) ≤ (k' : Int) + 1 := by omega
                        have q3 : k' < most + 1 := by omega
                        have q4 : (0 : Int) ≤ (i : Int) + 1 + d := by omega
                        have q5 : (i : Int) + 1 + d < (n : Int) + 1 := by omega
                        have q6 : (i : Int) < (n : Int) + 1 := by omega
                        have q7 : i + 1 + d < n + 1 := by omega
                        have q8 : ((i : Int) + 1 + d).toNat = i + 1 + d := by omega
                        have q10 : IntKind.i64.wrap (k' : Int) = k' := IntWalk.i64_in _ (by omega)
                        have q11 : (k' : Int) < (most : Int) + 1 := by omega
                        have q9 : IntKind.i64.wrap (x + y) = x + y := IntWalk.i64_in _ (by omega)
                        go_upto_region 21 with fail
                        go_still_tail 33, (by kernel_rfl)
                        change wpList _ _ _ _ _ wr.drew
                        go_wp2_with fail
                        go_roundw
                        case rel =>
                          have hmn : min u (x + y) = if x + y < u then x + y else u := by split <;> omega
                          have hz := HD.out.set i (min u (x + y))
                          rw [← HNEW.out, lpart_step _ _ _ _ _ _ _ hi, HNEW.out, hmn] at hz
                          exact ⟨d + 1, by go_num, by omega, ⟨hz.drew⟩⟩
                        case measure => simp [intOf]; omega
                      · have dy : decide (y < 4611686018427387904) = false := decide_eq_false hy1
                        have hno : addO (cO (sF fs ord) least p i (d + 1)) (restO (sF fs ord) least p n k' (i + d + 1)) = none := by
                          cases e2 : restO (sF fs ord) least p n k' (i + d + 1) with
                          | none => cases cO (sF fs ord) least p i (d + 1) <;> rfl
                          | some y' => exact absurd (hy.2 (by rw [e2]; simp)) hy1
                        have HNO := Aside0.mk hno; clear hno hx hy hx2
                        go_wp2_with fail
                        go_roundw
                        case rel => exact ⟨d + 1, by go_num, by omega, ⟨by rw [← lpart_same _ _ _ _ _ _ _ HNO.out]; exact HD.out⟩⟩
                        case measure => simp [intOf]; omega
                    · have dx : decide (x < 4611686018427387904) = false := decide_eq_false hx1
                      have hno : addO (cO (sF fs ord) least p i (d + 1)) (restO (sF fs ord) least p n k' (i + d + 1)) = none := by
                        cases e1 : cO (sF fs ord) least p i (d + 1) with
                        | none => rfl
                        | some x' => exact absurd (hx.2 (by rw [e1]; simp)) hx1
                      have HNO := Aside0.mk hno; clear hno hx hy
                      go_wp2_with fail
                      go_roundw
                      case rel => exact ⟨d + 1, by go_num, by omega, ⟨by rw [← lpart_same _ _ _ _ _ _ _ HNO.out]; exact HD.out⟩⟩
                      case measure => simp [intOf]; omega
                  · have hldi : ¬ (i : Int) + 1 + d ≤ n := by omega
                    go_wp2_with fail
                    go_roundw
                    case rel => exact ⟨i + 1, by go_num, by omega, ⟨by rw [← lpart_next _ _ _ _ _ _ hli, show n - i = d by omega]; exact HD.out⟩⟩
                    case measure => simp [intOf]; omega
              · have hlii : ¬ (i : Int) < n := by omega
                go_wp2_with fail
                go_roundw
                case rel =>
                  refine ⟨k' + 1 + 1, rs ++ [r], by go_num, by omega, ⟨by rw [List.length_append, HKL.out]; rfl, ?_⟩⟩
                  have := HI.out
                  rw [show i = n by omega, lpart_last] at this
                  exact this.done (by rw [HKL.out])
                case measure => simp [intOf]; omega
    · have hlti : ¬ (k : Int) < (most : Int) + 1 := by omega
      go_wp2_with fail
      go_ret
      exact ⟨bo, rs, rfl, HK.out.2, by rw [HK.out.1]; omega⟩
end Go.Proofs.Ythkfahkkcjagdaa
end
section
namespace Go.Proofs.Ythkfahkkcjagdaa
open Go.RowKit Go.Proofs.YthkfahkkcjagdaaW.PrintWords Go.Proofs.YthkfahkkcjagdaaW.PrintMore Go.Proofs.YthkfahkkcjagdaaW.PrintLast

theorem enter100 (args : Array Value) (W : World) : (callFunc 100 args).run Try.prog W = .ok (.enter 100 args) W := by kernel_rfl
def fI (A : Option Addr) (c b : Nat) (fs : List Fl) (W : World) : Prop := kF.C W A fs.length fs ∧ W.cell? ⟨b, 0, none⟩ = some (.slice A fs.length c)
theorem fC {A : Option Addr} {c b g N : Nat} {fs : List Fl} (hA : 0 < fs.length → ∀ ad, A = some ad → ad.block < N) (hb : b < N) (hg : N ≤ g) (hk : KOK fs) : CmpC 100 b (fun W => N ≤ W.heap.size ∧ fI A c b fs W) (fcf fs) (fun x => 0 ≤ x ∧ x < fs.length) g where
  en := enter100
  calls := fun W x y hI hx hy => fcmp_any W A c b fs hI.2.1 hI.2.2 x y hx hy (hk.rd x) (hk.rd y)
  keep := fun W W' hI k => by
    refine ⟨Nat.le_trans hI.1 k.size, ?_, ?_⟩
    · exact CF_kp hI.2.1 k (fun hp ad e => ⟨Nat.lt_of_lt_of_le (hA hp ad e) hI.1, fun h => by have := hA hp ad e; omega⟩)
    · exact k.cell hI.2.2 (fun h => by dsimp only at h; omega)
theorem upto_set (n i : Nat) (h : i < n) : (upto i ++ List.replicate (n - i) 0).set i (i : Int) = upto (i + 1) ++ List.replicate (n - (i + 1)) 0 := by
  rw [List.set_append_right _ _ (by rw [upto_length]; omega), upto_length, Nat.sub_self, show n - i = (n - (i + 1)) + 1 by omega, List.replicate_succ, List.set_cons_zero, upto_succ, List.append_assoc]
  rfl

set_option maxHeartbeats 8000000 in
set_option maxRecDepth 100000 in
theorem laid_any (w : World) (A : Option Addr) (c : Nat) (fs : List Fl) (h : kF.C w A fs.length fs) (hk : KOK fs) (l least p : Int) :
    Calls Try.prog 61 #[.slice A fs.length c, .agg #[.int .i64 l, .int .i64 least, .int .i64 p]] w (LaidPost fs A c l least p w) := by
  have ra := CF_lt h
  have hlm := Kd.C_max h
  have b1 := below_alloc (Below.refl w.heap.size w) (.cells #[.slice A fs.length c] 22)
  have b2 := below_alloc b1 (.cells #[.int .i64 l, .int .i64 least, .int .i64 p] 24)
  have q1 := (Blk.new w [.slice A fs.length c] 22).alloc (.cells #[.int .i64 l, .int .i64 least, .int .i64 p] 24)
  have q2 := Blk.new (w.alloc (.cells #[.slice A fs.length c] 22)) [.int .i64 l, .int .i64 least, .int .i64 p] 24
  have e1 : (w.alloc (.cells #[.slice A fs.length c] 22)).heap.size = w.heap.size + 1 := by simp
  rw [e1] at q2
  have c1 := q1.at_ (i := 0) rfl
  have s0 := q2.at_ (i := 0) rfl
  have s1 := q2.at_ (i := 1) rfl
  have s2 := q2.at_ (i := 2) rfl
  obtain ⟨w2, hw2⟩ : ∃ z, z = (w.alloc (.cells #[.slice A fs.length c] 22)).alloc (.cells #[.int .i64 l, .int .i64 least, .int .i64 p] 24) := ⟨_, rfl⟩
  have Q2 := Aside0.mk (show Blk w2 w.heap.size [.slice A fs.length c] 22 ∧ Blk w2 (w.heap.size + 1) [.int .i64 l, .int .i64 least, .int .i64 p] 24 ∧ Below w.heap.size w w2 by rw [hw2]; exact ⟨q1, q2, b2⟩)
  have HW2 := Aside0.mk hw2; clear hw2 q1 q2 b1 b2 e1
  have HR := Aside0.mk (show kF.C w A fs.length fs ∧ (0 < fs.length → ∀ ad, A = some ad → ad.block < w.heap.size) ∧ KOK fs from ⟨h, ra, hk⟩); clear h ra hk
  by_cases hlen : 128 < fs.length
  · have HE : Aside0 (errE fs l least p = 3) := ⟨by unfold errE; rw [if_pos hlen]⟩
    have hlen' : (128 : Int) < fs.length := by omega
    clear hlen
    go_enter Try.func61, Try.ntmps61
    go_wp2_with fail
    go_ret2
    refine ⟨by rw [← HW2.out]; exact Q2.out.2.2, ?_⟩
    rw [HE.out, if_neg (by decide)]
    rfl
  have hlen' : ¬ (128 : Int) < fs.length := by omega
  have hld : decide ((128 : Int) < fs.length) = false := decide_eq_false hlen'
  have hsp := Aside0.mk (fun W => spec_any W l least p)
  cases hS : spOK l least p with
  | false =>
    rw [hS] at hsp
    have HE : Aside0 (errE fs l least p = 2) := ⟨by unfold errE; rw [if_neg hlen, if_neg (by rw [hS]; simp)]⟩
    clear hS hlen hlen'
    go_enter Try.func61, Try.ntmps61
    go_wp2_with ((with_reducible refine (hsp.out _).mono ?_); rintro e5 w5 ⟨rfl, hb5⟩; have HB5 := Aside0.mk hb5; clear hb5)
    go_ret2
    refine ⟨below_step (by rw [← HW2.out]; exact Q2.out.2.2) HB5.out, ?_⟩
    rw [HE.out, if_neg (by decide)]
    rfl
  | true =>
    rw [hS] at hsp
    have hcf := Aside0.mk (fun W (hW : kF.C W A fs.length fs) => anyBad_any W A c fs hW)
    have hc5 := fun W (hW : Blk W w.heap.size [.slice A fs.length c] 22) => hW.at_ (i := 0) rfl
    cases hF : fs.all flOK with
    | false =>
      rw [hF] at hcf
      have HE : Aside0 (errE fs l least p = 2) := ⟨by unfold errE; rw [if_neg hlen, if_neg (by rw [hF]; simp)]⟩
      clear hS hF hlen hlen'
      go_enter Try.func61, Try.ntmps61
      go_wp2_with (first | ((with_reducible refine (hsp.out _).mono ?_); rintro e5 w5 ⟨rfl, hb5⟩; have hq5 := (show Blk w5 w.heap.size [.slice A fs.length c] 22 from Blk.below (HW2.out ▸ Q2.out.1) hb5).at_ (i := 0) rfl; have HB5 := Aside0.mk (below_step (HW2.out ▸ Q2.out.2.2) hb5); clear hb5) | ((with_reducible refine (hcf.out _ (Kd.C_below HR.out.1 HB5.out)).mono ?_); rintro e6 w6 ⟨rfl, hb6⟩; have HB6 := Aside0.mk (below_step HB5.out hb6); clear hb6))
      go_ret2
      refine ⟨HB6.out, ?_⟩
      rw [HE.out, if_neg (by decide)]
      rfl
    | true =>
      rw [hF] at hcf
      have HE : Aside0 (errE fs l least p = 0) := ⟨by unfold errE; rw [if_neg hlen, if_pos ⟨hS, hF⟩]⟩
      have HSF := Aside0.mk (And.intro hS hF)
      have hn128 : fs.length ≤ 128 := by omega
      clear hS hF hlen hlen'
      obtain ⟨n, hn0⟩ : ∃ z, z = fs.length := ⟨_, rfl⟩
      have mk1 := print_make (P := Try.prog) 35 3 .i64 8 Try.underlying35 info3 (by decide) n (by omega)
      have HN := Aside0.mk hn0
      have hnn : n ≤ 128 := by omega
      have HFN : Aside0 (∀ W, kF.C W A fs.length fs → kF.C W A n fs) := ⟨fun W h => by rw [hn0]; exact h⟩
      rw [← hn0] at hcf c1 Q2 HW2 hld hc5 ⊢
      clear hn0 hn128 hlm hc5
      go_enter Try.func61, Try.ntmps61
      go_upto_region 5 with (first | ((with_reducible refine (hsp.out _).mono ?_); rintro e5 w5 ⟨rfl, hb5⟩; have hq5 := (show Blk w5 w.heap.size [.slice A n c] 22 from Blk.below (HW2.out ▸ Q2.out.1) hb5).at_ (i := 0) rfl; have HB5 := Aside0.mk (And.intro (below_step (HW2.out ▸ Q2.out.2.2) hb5) (And.intro (Blk.below (HW2.out ▸ Q2.out.1) hb5) (Blk.below (HW2.out ▸ Q2.out.2.1) hb5))); clear hb5) | ((with_reducible refine (hcf.out _ (HFN.out _ (Kd.C_below HR.out.1 HB5.out.1))).mono ?_); rintro e6 w6 ⟨rfl, hb6⟩; have hq6 := (HB5.out.2.1.below hb6).at_ (i := 0) rfl; have HB6 := Aside0.mk (And.intro (below_step HB5.out.1 hb6) (And.intro (HB5.out.2.1.below hb6) (HB5.out.2.2.below hb6))); clear hb6))
      clear c1 s0 s1 s2 hq5 hsp hcf
      have hq6a := fun o => (HB6.out.2.1.alloc o).at_ (i := 0) rfl
      go_region
      go_wp2_with fail
      have a7 := h2_0 w6 (madeCells #[.int .i64 0] n) #[.slice A n c, .slice (some ⟨w6.heap.size, 0, none⟩) n n, .slice none 0 0, .slice none 0 0] 3 104
      have t7 := h2_1 w6 (madeCells #[.int .i64 0] n) #[.slice A n c, .slice (some ⟨w6.heap.size, 0, none⟩) n n, .slice none 0 0, .slice none 0 0] 3 104
      have bw7 := h2_b w6 (madeCells #[.int .i64 0] n) #[.slice A n c, .slice (some ⟨w6.heap.size, 0, none⟩) n n, .slice none 0 0, .slice none 0 0] 3 104
      rw [made_ints] at a7
      rw [made_ints] at t7 bw7 ⊢
      generalize ((w6.alloc (.cells (ints (List.replicate n 0)).toArray 3)).alloc (.cells #[.slice A n c, .slice (some ⟨w6.heap.size, 0, none⟩) n n, .slice none 0 0, .slice none 0 0] 104)).drew = w7 at a7 t7 bw7 ⊢
      have a7' : Blk w7 w6.heap.size (ints (List.replicate n 0)) 3 := a7
      have t7' : Blk w7 (w6.heap.size + 1) [.slice A n c, .slice (some ⟨w6.heap.size, 0, none⟩) n n, .slice none 0 0, .slice none 0 0] 104 := t7
      have hq1 := HB6.out.2.1.below bw7
      have hq2 := HB6.out.2.2.below bw7
      have hbw := below_step HB6.out.1 bw7
      have hsz := HB6.out.2.2.lt
      obtain ⟨o, ho⟩ : ∃ z, z = w6.heap.size := ⟨_, rfl⟩
      rw [← ho] at a7' t7' hsz ⊢
      have H7 := Aside0.mk (And.intro a7' (And.intro t7' (And.intro hq1 (And.intro hq2 hbw))))
      clear a7 t7 bw7 a7' t7' hq1 hq2 hbw HB6 HB5 hq6 hq6a mk1 ho
      go_loopw [7, 30] (fun _ v wr => ∃ i : Nat, v = .int .i64 i ∧ i ≤ n ∧ Aside0 (Kp (fun k => k = o) w7 wr ∧ Blk wr o (ints (upto i ++ List.replicate (n - i) 0)) 3)) (fun _ v _ => n - (intOf v).toNat)
      case atStart => exact ⟨0, rfl, by omega, ⟨Kp.refl _ _, by simpa [upto] using H7.out.1⟩⟩
      case round =>
        obtain ⟨i, rfl, hi, HJ⟩ := hrel
        have htn : Blk wr (o + 1) [.slice A n c, .slice (some ⟨o, 0, none⟩) n n, .slice none 0 0, .slice none 0 0] 104 := H7.out.2.1.kp HJ.out.1 (by omega)
        have ct := htn.at_ (i := 1) rfl
        by_cases hlt : i < n
        · have hlti : (i : Int) < n := by omega
          have hil : i < (upto i ++ List.replicate (n - i) 0).length := by simp [upto_length]; omega
          have f1 := HJ.out.2.at_ (ints_get _ hil)
          have f2 := HJ.out.2.free i
          clear hil htn
          go_wp2_with fail
          go_roundw
          case rel =>
            refine ⟨i + 1, by go_num, by omega, ⟨HJ.out.1.setCell (fun _ => rfl) _, ?_⟩⟩
            have := HJ.out.2.set i (.int .i64 i)
            rw [ints_set, upto_set _ _ hlt] at this
            exact this
          case measure => simp [intOf]; omega
        · have hlti : ¬ (i : Int) < n := by omega
          have hu : Blk wr o (ints (upto fs.length)) 3 := by
            have := HJ.out.2
            rw [show i = n by omega, Nat.sub_self, HN.out] at this
            simpa using this
          have hq1 := H7.out.2.2.1.kp HJ.out.1 (H7.out.2.2.1.ne_of_type H7.out.1 (by decide))
          have hq2 := H7.out.2.2.2.1.kp HJ.out.1 (H7.out.2.2.2.1.ne_of_type H7.out.1 (by decide))
          have hbw : Below w.heap.size w wr := ((Kp.of_below H7.out.2.2.2.2 : Kp (fun i => i = o) w w7).step HJ.out.1).below_of (fun i hi => by omega)
          have hcell := hq1.at_ (i := 0) rfl
          have hsrt := sorts128 (k := 100) (b := w.heap.size) (g := o) (I := fun W => w.heap.size + 1 ≤ W.heap.size ∧ fI A c w.heap.size fs W) (fcf_law HR.out.2.2) (show fs.length ≤ 128 by rw [← HN.out]; exact hnn) wr (fun x hx => (upto_mem _ x).1 hx) hu ⟨by have := htn.lt; omega, Kd.C_below HR.out.1 hbw, by rw [← HN.out]; exact hcell⟩ (fC (N := w.heap.size + 1) (fun hp ad e => by have := HR.out.2.1 hp ad e; omega) (by omega) (by omega) HR.out.2.2)
          rw [upto_length, ← HN.out] at hsrt
          have HSRT := Aside0.mk hsrt
          have HT8 := Aside0.mk (And.intro htn (And.intro hq1 (And.intro hq2 hbw)))
          clear hsrt hcell hu htn hq1 hq2 hbw
          have hen := enter100
          go_upto_region 12 with ((with_reducible refine HSRT.out.mono ?_); rintro e8 w8 ⟨rfl, hk8, hg8⟩; have H8 := Aside0.mk (And.intro hk8 hg8); clear hk8 hg8)
          have hg8 : Blk w8 o (ints (ordF fs)) 3 := by unfold ordF; rw [← HN.out]; exact H8.out.2
          have hn8 : ∀ b cs t, Blk wr b cs t → b ≠ o → Blk w8 b cs t := fun b cs t hb hne => hb.kp H8.out.1 hne
          have t8 := hn8 _ _ _ HT8.out.1 (by omega)
          have s8 := hn8 _ _ _ HT8.out.2.2.1 (by omega)
          have b8 : Below w.heap.size w w8 := ((Kp.of_below HT8.out.2.2.2 : Kp (fun i => i = o) w wr).step H8.out.1).below_of (fun i hi => by omega)
          have ct := t8.at_ (i := 1) rfl
          have htt : TT w8 w.heap.size (o + 1) o A c fs (ordF fs) least p (.slice none 0 0) (.slice none 0 0) [] [] :=
            ⟨⟨by rw [← HN.out]; exact t8, hg8, Kd.C_below HR.out.1 b8, ordF_length fs, fun x hx => ordF_mem hx⟩, ⟨rfl, .inl ⟨rfl, rfl⟩⟩, ⟨rfl, .inl ⟨rfl, rfl⟩⟩, fun k hk => by simp [Value.ownBlock] at hk, rfl, fun a ha => by simp at ha, fun a ha => by simp at ha, by omega, HR.out.2.1⟩
          have H9 := Aside0.mk (And.intro htt (And.intro s8 b8))
          clear htt t8 s8 b8 hn8 hg8 HSRT HT8 H8 HJ H7
          go_wp2_with fail
          go_loopw [8, 52] (fun _ v wr => ∃ (i : Nat) (cv ev : Value) (r1s r2s : List Nat), v = .int .i64 i ∧ i ≤ n ∧ Aside0 (TT wr w.heap.size (o + 1) o A c fs (ordF fs) least p cv ev r1s r2s ∧ r1s.length = i ∧ Blk wr (w.heap.size + 1) [.int .i64 l, .int .i64 least, .int .i64 p] 24 ∧ Below w.heap.size w wr)) (fun _ v _ => n - (intOf v).toNat)
          case atStart => exact ⟨0, _, _, [], [], rfl, by omega, ⟨H9.out.1, rfl, H9.out.2⟩⟩
          case round =>
            obtain ⟨i, cv, ev, r1s, r2s, rfl, hi, HI⟩ := hrel
            by_cases hlt : i < n
            · have hlti : (i : Int) < n := by omega
              have hsb := HSF.out.1
              unfold spOK at hsb
              rw [decide_eq_true_eq] at hsb
              have hil : r1s.length = i := HI.out.2.1
              have hrow := row_any wr (o + 1) o A c fs (ordF fs) cv ev HI.out.1.tb (by rw [← HN.out]; exact hnn) i (by rw [← HN.out]; exact hlt) l least p ⟨hsb.2.2.1, hsb.2.2.2.1⟩ ⟨hsb.2.2.2.2.1, hsb.2.2.2.2.2⟩ (ordF_SOK HSF.out.2) (ordF_sorted HR.out.2.2) w.heap.size HI.out.2.2.2.size (sls (fs.length + 1) r1s) (sls (fs.length + 1) r2s) HI.out.1.c HI.out.1.e (by rw [sls_length]; omega) (by rw [sls_length, HI.out.1.l]; omega) HI.out.1.d HR.out.2.1 (by omega)
              have HROW := Aside0.mk hrow; clear hrow hsb hil
              have s0 := HI.out.2.2.1.at_ (i := 0) rfl
              have s1 := HI.out.2.2.1.at_ (i := 1) rfl
              have s2 := HI.out.2.2.1.at_ (i := 2) rfl
              go_wp2_with ((with_reducible refine HROW.out.mono ?_); rintro e9 w9 hp9; obtain ⟨rfl, cv', ev', r1, r2, ht9, hk9, hb9⟩ := (by have := HI.out.1.step (w' := w9) (e0 := e9) (by rw [HI.out.2.1]; exact hp9); exact this); have H10 := Aside0.mk (And.intro ht9 (And.intro hk9 (hb9 _ _ _ HI.out.2.2.1 (by decide) (by decide)))); clear ht9 hk9 hb9 hp9)
              go_roundw
              case rel => exact ⟨i + 1, cv', ev', r1s ++ [r1], r2s ++ [r2], by go_num, by omega, ⟨H10.out.1, by rw [List.length_append, HI.out.2.1]; rfl, H10.out.2.2, ((Kp.of_below HI.out.2.2.2 : Kp (fun k => w.heap.size ≤ k) w wr).step H10.out.2.1).below_of (fun i hi => hi)⟩⟩
              case measure => simp [intOf]; omega
            · have hlti : ¬ (i : Int) < n := by omega
              go_wp2_with fail
              go_ret2
              refine ⟨HI.out.2.2.2, ?_⟩
              rw [if_pos HE.out]
              exact ⟨o + 1, o, cv, ev, r1s, r2s, rfl, HI.out.1, by rw [HI.out.2.1, ← HN.out]; omega⟩
end Go.Proofs.Ythkfahkkcjagdaa
end
