/- The plain law of Moore and Hodgson: what the rule selects ends in time, and no larger set does; what the law's ends and byDue answer. -/
import Derived.Test.YtnoocdobldchoaaOn2
import Derived.Test.YtnoocdobldchoaaMo0
import Derived.Test.YtnoocdobldchoaaIns
namespace Go.Proofs.Ytnoocdobldchoaa
open Go.RowKit Go.Proofs.YtnoocdobldchoaaW.PrintWords Go.Proofs.YtnoocdobldchoaaW.PrintMore Go.Proofs.YtnoocdobldchoaaW.PrintLast

/-- Are all done in time, one behind the other? -/
def endsF (ts : List (Int × Int)) : Int → List Int → Bool
  | _, [] => true
  | now, x :: l => if du ts x < now + wk ts x then false else endsF ts (now + wk ts x) l
theorem ends_iff (ts : List (Int × Int)) : ∀ (l : List Int) (t : Int), endsF ts t l = true ↔ ∀ A y B, l = A ++ y :: B → t + sumW ts A + wk ts y ≤ du ts y := by
  intro l
  induction l with
  | nil => intro t; simp [endsF]
  | cons x l ih =>
    intro t
    unfold endsF
    constructor
    · intro h A y B e
      by_cases hc : du ts x < t + wk ts x
      · rw [if_pos hc] at h; cases h
      rw [if_neg hc] at h
      cases A with
      | nil =>
        rw [List.nil_append, List.cons.injEq] at e
        rw [← e.1]
        simp [sumW]
        omega
      | cons a A =>
        rw [List.cons_append, List.cons.injEq] at e
        have := (ih (t + wk ts x)).1 h A y B e.2
        rw [sumW_cons, ← e.1]
        omega
    · intro h
      have h0 := h [] x l rfl
      simp [sumW] at h0
      rw [if_neg (by omega)]
      refine (ih _).2 (fun A y B e => ?_)
      have := h (x :: A) y B (by rw [e]; rfl)
      rw [sumW_cons] at this
      omega
theorem ends_snoc (ts : List (Int × Int)) (l : List Int) (x : Int) : endsF ts 0 (l ++ [x]) = true ↔ endsF ts 0 l = true ∧ sumW ts l + wk ts x ≤ du ts x := by
  rw [ends_iff, ends_iff]
  constructor
  · intro h
    refine ⟨fun A y B e => h A y (B ++ [x]) (by rw [e]; simp), ?_⟩
    have := h l x [] rfl
    omega
  · rintro ⟨h1, h2⟩ A y B e
    rcases List.eq_nil_or_concat B with rfl | ⟨B', z, rfl⟩
    · have e2 := List.append_inj' (s₁ := l) (t₁ := [x]) (s₂ := A) (t₂ := [y]) e rfl
      have e3 : x = y := by have := e2.2; simpa using this
      rw [← e2.1, ← e3]
      omega
    · rw [List.concat_eq_append, ← List.cons_append, ← List.append_assoc] at e
      exact h1 A y B' (List.append_inj' e rfl).1
theorem ends_drop (ts : List (Int × Int)) {P Q : List Int} {w : Int} (hw : 0 ≤ wk ts w) (h : endsF ts 0 (P ++ w :: Q) = true) : endsF ts 0 (P ++ Q) = true := by
  rw [ends_iff] at h ⊢
  intro A y B e
  rw [List.append_eq_append_iff] at e
  rcases e with ⟨a', e1, e2⟩ | ⟨c', e1, e2⟩
  · have := h (P ++ w :: a') y B (by rw [e2]; simp)
    rw [sumW_append, sumW_cons] at this
    rw [e1, sumW_append]
    omega
  · cases c' with
    | nil =>
      rw [List.append_nil] at e1
      have := h (P ++ [w]) y B (by rw [List.append_assoc, List.singleton_append]; rw [show Q = y :: B by rw [List.nil_append] at e2; exact e2.symm])
      rw [sumW_append] at this
      rw [← e1]
      have h1 : sumW ts [w] = wk ts w := by simp [sumW]
      omega
    | cons z c' =>
      rw [List.cons_append, List.cons.injEq] at e2
      have := h A y (c' ++ w :: Q) (by rw [e1, e2.1]; simp)
      exact this
theorem mem_split_idx (l : List Int) (i : Nat) (h : i < l.length) : l = l.take i ++ l.getD i 0 :: l.drop (i + 1) ∧ l.eraseIdx i = l.take i ++ l.drop (i + 1) := by
  refine ⟨?_, List.eraseIdx_eq_take_drop_succ l i⟩
  rw [← dropN l i h, List.take_append_drop]
theorem mh_feas_step {ts : List (Int × Int)} (hT : TOK ts) {s : List Int × List Int} {x : Int} (hs : ∀ y ∈ s.1, 0 ≤ y ∧ y < ts.length) (hdue : ∀ y ∈ s.1, du ts y ≤ du ts x) (h : endsF ts 0 s.1 = true) : endsF ts 0 (mhStep ts s x).1 = true := by
  unfold mhStep
  by_cases hc : sumW ts (s.1 ++ [x]) ≤ du ts x
  · rw [if_pos hc]
    rw [sumW_append] at hc
    refine (ends_snoc ts _ _).2 ⟨h, ?_⟩
    have : sumW ts [x] = wk ts x := by simp [sumW]
    omega
  rw [if_neg hc]
  dsimp only
  obtain ⟨d, hd⟩ : ∃ z, z = s.1 := ⟨_, rfl⟩
  rw [← hd] at hs hdue h ⊢
  have hw := worst_lt ts d x
  have hmax := worstN_max ts (d ++ [x]) (d ++ [x]).length d.length (by simp)
  obtain ⟨w, hwe⟩ : ∃ z, z = worst ts (d ++ [x]) := ⟨_, rfl⟩
  rw [show worstN ts (d ++ [x]) (d ++ [x]).length = w from hwe.symm] at hmax
  rw [← hwe] at hw ⊢
  have hlx : (d ++ [x]).getD d.length 0 = x := by simp
  rw [hlx] at hmax
  obtain ⟨e1, e2⟩ := mem_split_idx (d ++ [x]) w hw
  rw [e2]
  by_cases hwl : w = d.length
  · rw [hwl, List.take_left' rfl, List.drop_eq_nil_of_le (by simp), List.append_nil]
    exact h
  have hwl2 : w < d.length := by rw [List.length_append, List.length_singleton] at hw; omega
  have t1 : (d ++ [x]).take w = d.take w := List.take_append_of_le_length (by omega)
  have t2 : (d ++ [x]).drop (w + 1) = d.drop (w + 1) ++ [x] := List.drop_append_of_le_length (by omega)
  have t3 : (d ++ [x]).getD w 0 = d.getD w 0 := by rw [List.getD_eq_getElem?_getD, List.getElem?_append_left hwl2, ← List.getD_eq_getElem?_getD]
  rw [t3] at hmax
  rw [t1, t2, ← List.append_assoc]
  obtain ⟨d1, _⟩ := mem_split_idx d w hwl2
  have hwm : d.getD w 0 ∈ d := by rw [List.getD_eq_getElem?_getD, List.getElem?_eq_getElem hwl2]; exact List.getElem_mem _
  have hw0 := (hT.2 _ (hs _ hwm).1 (hs _ hwm).2).1
  have hf : endsF ts 0 (d.take w ++ d.drop (w + 1)) = true := ends_drop ts (w := d.getD w 0) (by omega) (by rw [← d1]; exact h)
  refine (ends_snoc ts _ _).2 ⟨hf, ?_⟩
  have hsum : sumW ts d = sumW ts (d.take w ++ d.drop (w + 1)) + wk ts (d.getD w 0) := by
    rw [sumW_erase ts d w hwl2, List.eraseIdx_eq_take_drop_succ]
    omega
  have hlast : sumW ts d ≤ du ts x := by
    rcases List.eq_nil_or_concat d with e | ⟨B, z, e⟩
    · rw [e] at hwl2; simp at hwl2
    · rw [List.concat_eq_append] at e
      have h3 := h
      rw [e] at h3
      have h4 := ((ends_snoc ts B z).1 h3).2
      have h5 := hdue z (by rw [e]; simp)
      rw [e, sumW_append]
      have : sumW ts [z] = wk ts z := by simp [sumW]
      omega
  omega
/-! ### No larger set -/
theorem nodup_sub_le : ∀ {T d : List Int}, T.Nodup → (∀ t ∈ T, t ∈ d) → T.length ≤ d.length
  | [], _, _, _ => by simp
  | a :: T, d, hn, hs => by
    obtain ⟨h1, h2⟩ := List.nodup_cons.1 hn
    have ha := hs a List.mem_cons_self
    have := nodup_sub_le (T := T) (d := d.erase a) h2 (fun t ht => (List.mem_erase_of_ne (fun e => h1 (by rw [← e]; exact ht))).2 (hs t (List.mem_cons_of_mem _ ht)))
    rw [List.length_erase_of_mem ha] at this
    have : 0 < d.length := List.length_pos_of_mem ha
    rw [List.length_cons]
    omega
theorem nodup_sub_more {T d : List Int} (hd : d.Nodup) (h : T.length < d.length) : ∃ z ∈ d, z ∉ T := by
  by_cases he : ∃ z ∈ d, z ∉ T
  · exact he
  · have := nodup_sub_le hd (d := T) (fun t ht => by
      by_cases hm : t ∈ T
      · exact hm
      · exact absurd ⟨t, ht, hm⟩ he)
    omega
theorem nodup_sub_perm {T d : List Int} (hT : T.Nodup) (hd : d.Nodup) (hs : ∀ t ∈ T, t ∈ d) (h : d.length ≤ T.length) : T.Perm d := by
  refine (List.perm_ext_iff_of_nodup hT hd).2 (fun z => ⟨hs z, fun hz => ?_⟩)
  by_cases hm : z ∈ T
  · exact hm
  · have := nodup_sub_le (T := z :: T) (d := d) (List.nodup_cons.2 ⟨hm, hT⟩) (fun t ht => by
      rcases List.mem_cons.1 ht with rfl | h
      · exact hz
      · exact hs t h)
    rw [List.length_cons] at this
    omega
/-- Of every set that ends in time there is one as large and no longer among those selected. -/
def Opt (ts : List (Int × Int)) (A d : List Int) : Prop :=
  ∀ F : List Int, F.Sublist A → endsF ts 0 F = true → ∃ T : List Int, T.Nodup ∧ (∀ t ∈ T, t ∈ d) ∧ T.length = F.length ∧ sumW ts T ≤ sumW ts F
theorem Opt.step {ts : List (Int × Int)} {A : List Int} {s : List Int × List Int} {x : Int} (h : Opt ts A s.1) (hn : s.1.Nodup) (hx : x ∉ s.1) : Opt ts (A ++ [x]) (mhStep ts s x).1 := by
  obtain ⟨d, hd⟩ : ∃ z, z = s.1 := ⟨_, rfl⟩
  rw [← hd] at h hn hx
  have sx : sumW ts [x] = wk ts x := by simp [sumW]
  have hn1 : (d ++ [x]).Nodup := by
    rw [List.nodup_append]
    refine ⟨hn, by simp, fun a ha b hb e => hx ?_⟩
    rw [List.mem_singleton] at hb
    rw [← hb, ← e]; exact ha
  -- the step ahead of a removal
  have h1 : ∀ F : List Int, F.Sublist (A ++ [x]) → endsF ts 0 F = true → ∃ T : List Int, T.Nodup ∧ (∀ t ∈ T, t ∈ d ++ [x]) ∧ T.length = F.length ∧ sumW ts T ≤ sumW ts F ∧ (T.length ≤ d.length ∨ sumW ts F ≤ du ts x) := by
    intro F hF hE
    obtain ⟨F0, F1, rfl, hF0, hF1⟩ := List.sublist_append_iff.1 hF
    have hc : F1 = [] ∨ F1 = [x] := by
      rcases List.sublist_cons_iff.1 hF1 with h | ⟨r, rfl, h⟩
      · exact .inl (List.sublist_nil.1 h)
      · rw [List.sublist_nil.1 h]; exact .inr rfl
    rcases hc with rfl | rfl
    · rw [List.append_nil] at hE ⊢
      obtain ⟨T, t1, t2, t3, t4⟩ := h F0 hF0 hE
      exact ⟨T, t1, fun t ht => List.mem_append.2 (.inl (t2 t ht)), t3, t4, .inl (nodup_sub_le t1 t2)⟩
    · obtain ⟨hE0, hE1⟩ := (ends_snoc ts F0 x).1 hE
      obtain ⟨T, t1, t2, t3, t4⟩ := h F0 hF0 hE0
      refine ⟨T ++ [x], ?_, fun t ht => ?_, by simp [t3], by rw [sumW_append, sumW_append]; omega, .inr (by rw [sumW_append]; omega)⟩
      · rw [List.nodup_append]
        refine ⟨t1, by simp, fun a ha b hb e => hx ?_⟩
        rw [List.mem_singleton] at hb
        rw [← hb, ← e]; exact t2 a ha
      · rcases List.mem_append.1 ht with h | h
        · exact List.mem_append.2 (.inl (t2 t h))
        · exact List.mem_append.2 (.inr h)
  unfold mhStep
  rw [← hd]
  by_cases hc : sumW ts (d ++ [x]) ≤ du ts x
  · rw [if_pos hc]
    intro F hF hE
    obtain ⟨T, t1, t2, t3, t4, _⟩ := h1 F hF hE
    exact ⟨T, t1, t2, t3, t4⟩
  rw [if_neg hc]
  have hw := worst_lt ts d x
  have hmax := worstN_max ts (d ++ [x]) (d ++ [x]).length
  have hper := eraseIdx_perm (d ++ [x]) _ hw
  rw [show worstN ts (d ++ [x]) (d ++ [x]).length = worst ts (d ++ [x]) from rfl] at hmax
  obtain ⟨w, hwe⟩ : ∃ z, z = worst ts (d ++ [x]) := ⟨_, rfl⟩
  rw [← hwe] at hmax hper ⊢
  obtain ⟨v, hv⟩ : ∃ z, z = (d ++ [x]).getD w 0 := ⟨_, rfl⟩
  rw [← hv] at hmax hper
  have hmx : ∀ z ∈ d ++ [x], wk ts z ≤ wk ts v := fun z hz => by
    obtain ⟨j, hj, rfl⟩ := List.getElem_of_mem hz
    have := hmax j hj
    rwa [List.getD_eq_getElem?_getD, List.getElem?_eq_getElem hj, Option.getD_some] at this
  have hmem : ∀ z, z ∈ d ++ [x] → z ≠ v → z ∈ (d ++ [x]).eraseIdx w := fun z hz hne => by
    rcases List.mem_cons.1 (hper.mem_iff.2 hz) with h | h
    · exact absurd h hne
    · exact h
  intro F hF hE
  obtain ⟨T, t1, t2, t3, t4, t5⟩ := h1 F hF hE
  by_cases hvT : v ∈ T
  · have hlt : T.length < (d ++ [x]).length := by
      rcases t5 with t5 | t5
      · rw [List.length_append, List.length_singleton]; omega
      · by_cases hl : T.length < (d ++ [x]).length
        · exact hl
        · have := sumW_perm ts (nodup_sub_perm t1 hn1 t2 (by omega))
          omega
    obtain ⟨z, hz1, hz2⟩ := nodup_sub_more hn1 hlt
    refine ⟨z :: T.erase v, List.nodup_cons.2 ⟨fun hm => hz2 (List.mem_of_mem_erase hm), t1.erase v⟩, fun t ht => ?_, ?_, ?_⟩
    · rcases List.mem_cons.1 ht with rfl | ht
      · exact hmem t hz1 (fun e => hz2 (by rw [e]; exact hvT))
      · have := (t1.mem_erase_iff).1 ht
        exact hmem t (t2 t this.2) this.1
    · rw [List.length_cons, List.length_erase_of_mem hvT]
      have : 0 < T.length := List.length_pos_of_mem hvT
      omega
    · have hp := sumW_perm ts (List.perm_cons_erase hvT)
      rw [sumW_cons] at hp
      rw [sumW_cons]
      have := hmx z hz1
      omega
  · exact ⟨T, t1, fun t ht => hmem t (t2 t ht) (fun e => hvT (by rw [← e]; exact ht)), t3, t4⟩
theorem mhf_all {ts : List (Int × Int)} (hT : TOK ts) : ∀ (o A : List Int) (s : List Int × List Int), (A ++ o).Nodup → (∀ x ∈ A ++ o, 0 ≤ x ∧ x < ts.length) → (A ++ o).Pairwise (fun x y => du ts x ≤ du ts y) → (∀ y ∈ s.1, y ∈ A) → s.1.Nodup → endsF ts 0 s.1 = true → Opt ts A s.1 →
    endsF ts 0 (o.foldl (mhStep ts) s).1 = true ∧ Opt ts (A ++ o) (o.foldl (mhStep ts) s).1
  | [], A, s, _, _, _, _, _, h1, h2 => by rw [List.append_nil]; exact ⟨h1, h2⟩
  | x :: o, A, s, hnd, hr, hpw, hs, hsn, h1, h2 => by
    have e : A ++ x :: o = (A ++ [x]) ++ o := by simp
    have hxA : x ∉ A := fun hm => (List.nodup_append.1 hnd).2.2 x hm x List.mem_cons_self rfl
    have hxs : x ∉ s.1 := fun hm => hxA (hs x hm)
    have hp := mhStep_perm ts s x
    have hsub : ∀ y ∈ (mhStep ts s x).1, y ∈ s.1 ++ [x] := fun y hy => by
      unfold mhStep at hy
      by_cases hc : sumW ts (s.1 ++ [x]) ≤ du ts x
      · rw [if_pos hc] at hy; exact hy
      · rw [if_neg hc] at hy; exact List.mem_of_mem_eraseIdx hy
    have hn1 : (s.1 ++ [x]).Nodup := by
      rw [List.nodup_append]
      refine ⟨hsn, by simp, fun a ha b hb e => hxs ?_⟩
      rw [List.mem_singleton] at hb
      rw [← hb, ← e]; exact ha
    have hn2 : (mhStep ts s x).1.Nodup := by
      unfold mhStep
      by_cases hc : sumW ts (s.1 ++ [x]) ≤ du ts x
      · rw [if_pos hc]; exact hn1
      · rw [if_neg hc]; exact hn1.sublist (List.eraseIdx_sublist _ _)
    rw [List.foldl_cons, e]
    rw [e] at hnd hr hpw
    refine mhf_all hT o (A ++ [x]) (mhStep ts s x) hnd hr hpw (fun y hy => ?_) hn2 ?_ (h2.step hsn hxs)
    · rcases List.mem_append.1 (hsub y hy) with h | h
      · exact List.mem_append.2 (.inl (hs y h))
      · exact List.mem_append.2 (.inr h)
    · refine mh_feas_step hT (fun y hy => hr y (by simp [hs y hy])) (fun y hy => ?_) h1
      have hpa := (List.pairwise_append.1 (List.pairwise_append.1 hpw).1).2.2
      exact hpa y (hs y hy) x (by simp)
theorem tord_nodup (ts : List (Int × Int)) : (tord ts).Nodup := (tord_perm ts).nodup_iff.2 (upto_nodup' _)
theorem tord_due (ts : List (Int × Int)) : (tord ts).Pairwise (fun x y => du ts x ≤ du ts y) := by
  refine (srt_ahd (tcf_law ts) (upto ts.length) (upto_pw _)).imp (fun {x y} h => ?_)
  rcases h with h | ⟨h, _⟩
  · have := (tcf_neg ts x y).1 h; omega
  · unfold tcf cmpI at h
    split at h
    · omega
    · split at h <;> omega
theorem moore_all {ts : List (Int × Int)} (hT : TOK ts) : endsF ts 0 (mh ts (tord ts)).1 = true ∧ Opt ts (tord ts) (mh ts (tord ts)).1 := by
  have := mhf_all hT (tord ts) [] ([], []) (by rw [List.nil_append]; exact tord_nodup ts) (fun x hx => tord_mem (by simpa using hx)) (by rw [List.nil_append]; exact tord_due ts) (by simp) List.nodup_nil rfl (fun F hF _ => ⟨[], List.nodup_nil, by simp, by rw [List.sublist_nil.1 hF], by rw [List.sublist_nil.1 hF]; exact Int.le_refl _⟩)
  rw [List.nil_append] at this
  exact this
/-- No larger set ends in time. -/
theorem moore_most {ts : List (Int × Int)} (hT : TOK ts) (p : Int → Bool) (h : (mh ts (tord ts)).1.length < ((tord ts).filter p).length) : endsF ts 0 ((tord ts).filter p) = false := by
  cases hc : endsF ts 0 ((tord ts).filter p) with
  | false => rfl
  | true =>
    obtain ⟨T, t1, t2, t3, _⟩ := (moore_all hT).2 _ List.filter_sublist hc
    have := nodup_sub_le t1 t2
    omega
/-! ### What the law's ends and byDue answer -/
theorem lEnds_l0 (ts : List (Int × Int)) (hT : TOK ts) (l : List Int) (hl : l.length ≤ 64) (hr : ∀ x ∈ l, 0 ≤ x ∧ x < ts.length) : ∀ (n k i : Nat) (now : Int), i + n = l.length → n < k → 0 ≤ now → now ≤ (i : Int) * 1073741824 → law8ends.l0 k ts l now i = some (endsF ts now (l.drop i)) := by
  intro n
  induction n with
  | zero =>
    intro k i now hi hk _ _
    obtain ⟨k, rfl⟩ : ∃ z, k = z + 1 := ⟨k - 1, by omega⟩
    simp only [law8ends.l0]
    rw [if_neg (by omega), List.drop_eq_nil_of_le (by omega)]
    rfl
  | succ n ih =>
    intro k i now hi hk n0 n1
    obtain ⟨k, rfl⟩ : ∃ z, k = z + 1 := ⟨k - 1, by omega⟩
    have hx := hr _ (rd_mem (o := l) (i := i) (by omega))
    have hb := (hT.2 _ hx.1 hx.2).1
    have hdr := drop_rd l (i : Int) (by omega) (by omega)
    rw [show ((i : Int) + 1).toNat = i + 1 by omega, Int.toNat_natCast] at hdr
    have ew : ∀ x, (rdP ts x).1 = wk ts x := fun _ => rfl
    have ed : ∀ x, (rdP ts x).2 = du ts x := fun _ => rfl
    simp only [law8ends.l0]
    rw [if_pos (show (i : Int) < l.length by omega), if_pos (show (0 : Int) ≤ i by omega), if_pos hx.1, if_pos hx.2, hdr, ew, ed, w64 (n := now + _) (by omega), w64 (n := (i : Int) + 1) (by omega), show ((i : Int) + 1) = ((i + 1 : Nat) : Int) by omega]
    unfold endsF
    by_cases hc : du ts (rd l i) < now + wk ts (rd l i)
    · rw [if_pos (show now + wk ts (rd l i) > du ts (rd l i) from hc), if_pos hc]
    · rw [if_neg (show ¬ now + wk ts (rd l i) > du ts (rd l i) from hc), if_neg hc]
      exact ih k (i + 1) _ (by omega) (by omega) (by omega) (by omega)
theorem lEnds_f (ts : List (Int × Int)) (hT : TOK ts) (l : List Int) (hl : l.length ≤ 64) (hr : ∀ x ∈ l, 0 ≤ x ∧ x < ts.length) {k : Nat} (hk : 100 ≤ k) : law8ends.f k ts l = some (endsF ts 0 l) := by
  unfold law8ends.f
  have := lEnds_l0 ts hT l hl hr l.length k 0 0 (by omega) (by omega) (by omega) (by omega)
  rw [List.drop_zero, show ((0 : Nat) : Int) = 0 from rfl] at this
  exact this
theorem lBy_yes (ts : List (Int × Int)) (bs : List Bool) (out : List Int) (x : Nat) (hxl : x < 100) : ∀ (m k i : Nat) (next : List Int), i + m = out.length → i + m ≤ 100 → m < k → next.length + m ≤ 200 → law8byDue.l1 k ts bs out x next true i = law8byDue.l0 (k - m - 1) ts bs (next ++ out.drop i) ((x + 1 : Nat) : Int) := by
  intro m
  induction m with
  | zero =>
    intro k i next hi hi2 hk hn
    obtain ⟨k, rfl⟩ : ∃ z, k = z + 1 := ⟨k - 1, by omega⟩
    simp only [law8byDue.l1]
    rw [if_neg (by omega), if_pos trivial, List.drop_eq_nil_of_le (by omega), List.append_nil, w64 (by omega), show k + 1 - 0 - 1 = k by omega, show ((x : Int) + 1) = ((x + 1 : Nat) : Int) by omega]
  | succ m ih =>
    intro k i next hi hi2 hk hn
    obtain ⟨k, rfl⟩ : ∃ z, k = z + 1 := ⟨k - 1, by omega⟩
    have hdr := drop_rd out (i : Int) (by omega) (by omega)
    rw [show ((i : Int) + 1).toNat = i + 1 by omega, Int.toNat_natCast] at hdr
    simp only [law8byDue.l1]
    rw [if_pos (show (i : Int) < out.length by omega), if_pos trivial, if_pos (show (0 : Int) ≤ i by omega), if_pos (by omega), w64 (by omega), show ((i : Int) + 1) = ((i + 1 : Nat) : Int) by omega, ih k (i + 1) _ (by omega) (by omega) (by omega) (by rw [List.length_append, List.length_singleton]; omega), hdr, List.append_assoc, List.singleton_append, show k + 1 - (m + 1) - 1 = k - m - 1 by omega]
theorem lBy_no (ts : List (Int × Int)) (bs : List Bool) (out : List Int) (x : Nat) (hxl : x < ts.length) (hdl : ts.length ≤ 64) (hr : ∀ y ∈ out, 0 ≤ y ∧ y < ts.length) : ∀ (m k i : Nat) (next : List Int), i + m = out.length → i + m ≤ 100 → m < k → next.length + m ≤ 150 → law8byDue.l1 k ts bs out x next false i = law8byDue.l0 (k - m - 1) ts bs (next ++ insF (tcf ts) x (out.drop i)) ((x + 1 : Nat) : Int) := by
  intro m
  induction m with
  | zero =>
    intro k i next hi hi2 hk hn
    obtain ⟨k, rfl⟩ : ∃ z, k = z + 1 := ⟨k - 1, by omega⟩
    simp only [law8byDue.l1]
    rw [if_neg (by omega), if_neg (by decide), if_pos (by omega), List.drop_eq_nil_of_le (by omega), w64 (by omega), show k + 1 - 0 - 1 = k by omega, show ((x : Int) + 1) = ((x + 1 : Nat) : Int) by omega]
    rfl
  | succ m ih =>
    intro k i next hi hi2 hk hn
    obtain ⟨k, rfl⟩ : ∃ z, k = z + 1 := ⟨k - 1, by omega⟩
    have hdr := drop_rd out (i : Int) (by omega) (by omega)
    rw [show ((i : Int) + 1).toNat = i + 1 by omega, Int.toNat_natCast] at hdr
    have hy := hr _ (rd_mem (o := out) (i := i) (by omega))
    have hc0 := tcf_neg ts x (rd out i)
    unfold du at hc0
    simp only [law8byDue.l1]
    rw [if_pos (show (i : Int) < out.length by omega), if_neg (by decide), if_pos (show (0 : Int) ≤ x by omega), if_pos (show (x : Int) < ts.length by omega), if_pos (show (0 : Int) ≤ i by omega), if_pos hy.1, if_pos hy.2, hdr]
    unfold insF
    by_cases hc : tcf ts x (rd out i) < 0
    · rw [if_pos (hc0.1 hc), if_pos hc, if_pos (by omega), Option.bind_some, if_pos (by rw [List.length_append, List.length_singleton]; omega), w64 (by omega), show ((i : Int) + 1) = ((i + 1 : Nat) : Int) by omega, lBy_yes ts bs out x (by omega) m k (i + 1) _ (by omega) (by omega) (by omega) (by rw [List.length_append, List.length_append, List.length_singleton, List.length_singleton]; omega), show k + 1 - (m + 1) - 1 = k - m - 1 by omega]
      simp
    · rw [if_neg (fun e => hc (hc0.2 e)), if_neg hc, if_pos (by omega), w64 (by omega), show ((i : Int) + 1) = ((i + 1 : Nat) : Int) by omega, ih k (i + 1) _ (by omega) (by omega) (by omega) (by rw [List.length_append, List.length_singleton]; omega), show k + 1 - (m + 1) - 1 = k - m - 1 by omega]
      simp
/-- Which of the numbers are chosen. -/
def chosen (bs : List Bool) (x : Int) : Bool := bs.getD x.toNat false
theorem lBy_l0 (ts : List (Int × Int)) (hdl : ts.length ≤ 64) (bs : List Bool) (hb : bs.length = ts.length) : ∀ (n k i : Nat) (out : List Int), i + n = ts.length → 100 * n + 200 < k → out.Pairwise (ahd (tcf ts)) → out.Perm ((upto i).filter (chosen bs)) → law8byDue.l0 k ts bs out i = some ((tord ts).filter (chosen bs)) := by
  intro n
  induction n with
  | zero =>
    intro k i out hi hk hp hq
    obtain ⟨k, rfl⟩ : ∃ z, k = z + 1 := ⟨k - 1, by omega⟩
    obtain rfl : i = ts.length := by omega
    have e : out = (tord ts).filter (chosen bs) := List.Perm.eq_of_pairwise (le := ahd (tcf ts)) (fun _ _ _ _ h1 h2 => (tcf_law ts).asym h1 h2) hp ((srt_ahd (tcf_law ts) (upto ts.length) (upto_pw _)).filter _) (hq.trans ((tord_perm ts).symm.filter _))
    simp only [law8byDue.l0]
    rw [if_neg (by omega), e]
  | succ n ih =>
    intro k i out hi hk hp hq
    obtain ⟨k, rfl⟩ : ∃ z, k = z + 1 := ⟨k - 1, by omega⟩
    have hr : ∀ y ∈ out, 0 ≤ y ∧ y < i := fun y hy => (upto_mem _ y).1 (List.mem_filter.1 (hq.mem_iff.1 hy)).1
    have hol : out.length ≤ i := by
      have := List.length_filter_le (chosen bs) (upto i)
      rw [upto_length] at this
      rw [hq.length_eq]
      exact this
    have hu : (upto (i + 1)).filter (chosen bs) = (upto i).filter (chosen bs) ++ if chosen bs i = true then [(i : Int)] else [] := by
      rw [upto_succ, List.filter_append]
      congr 1
      by_cases h : chosen bs (i : Int) = true <;> simp [h]
    simp only [law8byDue.l0]
    rw [if_pos (show (i : Int) < ts.length by omega), if_pos (show (0 : Int) ≤ i by omega), if_pos (show (i : Int) < bs.length by omega)]
    by_cases hc : chosen bs (i : Int) = true
    · rw [if_pos (show rdOf false bs (i : Int) = true from hc)]
      have hst := lBy_no ts bs out i (by omega) hdl (fun y hy => by have := hr y hy; omega) out.length k 0 [] (by omega) (by omega) (by omega) (by simp; omega)
      rw [List.nil_append, List.drop_zero, show ((0 : Nat) : Int) = 0 from rfl] at hst
      rw [hst]
      clear hst
      have hf : 100 * n + 200 < k - out.length - 1 := by omega
      refine ih (k - out.length - 1) (i + 1) _ (by omega) hf (insF_ahd (tcf_law ts) _ _ hp (fun y hy => (hr y hy).2)) ?_
      rw [hu, if_pos hc]
      exact ((insF_perm _ _ _).trans (hq.cons _)).trans (List.perm_append_comm (l₁ := [(i : Int)]))
    · rw [if_neg (show ¬ rdOf false bs (i : Int) = true from hc), w64 (by omega), show ((i : Int) + 1) = ((i + 1 : Nat) : Int) by omega]
      exact ih k (i + 1) _ (by omega) (by omega) hp (by rw [hu, if_neg hc, List.append_nil]; exact hq)
theorem lBy_f (ts : List (Int × Int)) (hdl : ts.length ≤ 64) (bs : List Bool) (hb : bs.length = ts.length) {k : Nat} (hk : 10000 ≤ k) : law8byDue.f k ts bs = some ((tord ts).filter (chosen bs)) := by
  unfold law8byDue.f
  exact lBy_l0 ts hdl bs hb ts.length k 0 [] (by omega) (by omega) List.Pairwise.nil (List.Perm.refl _)
theorem list_of_getD (bs : List Bool) : (upto bs.length).map (chosen bs) = bs := by
  refine List.ext_getElem? (fun j => ?_)
  rw [List.getElem?_map]
  unfold upto
  rw [List.getElem?_map]
  by_cases hj : j < bs.length
  · rw [List.getElem?_range hj]
    simp [chosen, List.getD_eq_getElem?_getD, List.getElem?_eq_getElem hj]
  · rw [List.getElem?_eq_none (by simpa using hj), List.getElem?_eq_none (by omega)]
    rfl
theorem chosen_count (ts : List (Int × Int)) (bs : List Bool) (hb : bs.length = ts.length) : ((tord ts).filter (chosen bs)).length = bs.count true := by
  rw [((tord_perm ts).filter _).length_eq, ← hb]
  rw [← List.countP_eq_length_filter]
  have h : (bs.count true) = ((upto bs.length).map (chosen bs)).count true := by rw [list_of_getD]
  rw [h, List.count_eq_countP, List.countP_map]
  congr 1
  funext x
  simp
theorem once_all (ts : List (Int × Int)) (h : tasksE ts = 0) : (doneF ts ++ lateF ts).Perm (upto ts.length) := by
  unfold doneF lateF
  rw [if_pos h, if_pos h, ← sort_late]
  exact ((List.mergeSort_perm _ _).append_left _).trans ((mh_perm ts (tord ts)).trans (tord_perm ts))
end Go.Proofs.Ytnoocdobldchoaa
