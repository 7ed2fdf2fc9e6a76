/- The rule of the longest works first ends within (4m - 1)/3m of the least finish; what the check of an assignment answers. -/
import Derived.Test.YtnoocdobldchoaaE1
namespace Go.Proofs.Ytnoocdobldchoaa
open Go.RowKit Go.Proofs.YtnoocdobldchoaaW.PrintWords Go.Proofs.YtnoocdobldchoaaW.PrintMore Go.Proofs.YtnoocdobldchoaaW.PrintLast

/-! ### The rule of the longest works first ends within (4m - 1)/3m of the least finish; what the check of an assignment answers. -/
/-- The load of press k. -/
def zl (l ts : List Int) (k : Nat) : Int := ((List.zip l ts).map fun q => if q.1 = (k : Int) then q.2 else 0).sum
theorem zl_cons (a t : Int) (l ts : List Int) (k : Nat) : zl (a :: l) (t :: ts) k = (if a = (k : Int) then t else 0) + zl l ts k := by
  unfold zl; rw [List.zip_cons_cons, List.map_cons, List.sum_cons]
/-- The greatest sum of a press; none: it is no assignment. -/
def finF (P : Nat) : List (Int × Int) → (Nat → Int) → Int → Option Int
  | [], _, best => some best
  | q :: l, ld, best => if q.1 < 0 ∨ (P : Int) ≤ q.1 then none else finF P l (upd ld q.1.toNat q.2) (max best (ld q.1.toNat + q.2))
theorem finF_some {P : Nat} : ∀ (l ts : List Int) (ld : Nat → Int) (best : Int), l.length = ts.length → (∀ t ∈ ts, 0 ≤ t) → best = maxF (lls ld P) → (∀ a ∈ l, 0 ≤ a ∧ a < P) →
    finF P (List.zip l ts) ld best = some (maxF (lls (fun k => ld k + zl l ts k) P)) := by
  intro l
  induction l with
  | nil =>
    intro ts ld best hl _ hb _
    cases ts with
    | nil => simp [finF, zl, hb]
    | cons t ts => simp at hl
  | cons a l ih =>
    intro ts ld best hl ht hb ha
    cases ts with
    | nil => simp at hl
    | cons t ts =>
      have h0 := ha a List.mem_cons_self
      have ht0 := ht t List.mem_cons_self
      rw [List.zip_cons_cons]
      unfold finF
      dsimp only
      rw [if_neg (by omega), ih ts _ _ (by simpa using hl) (fun z hz => ht z (List.mem_cons_of_mem _ hz)) (by rw [maxF_upd ld t (by omega) ht0, hb]) (fun z hz => ha z (List.mem_cons_of_mem _ hz))]
      congr 3
      funext k
      rw [zl_cons]
      unfold upd
      by_cases h : k = a.toNat
      · subst h; rw [if_pos rfl, if_pos (by omega)]; omega
      · rw [if_neg h, if_neg (by omega)]; omega
theorem finF_rng {P : Nat} : ∀ (l ts : List Int) (ld : Nat → Int) (best z : Int), l.length = ts.length → finF P (List.zip l ts) ld best = some z → ∀ a ∈ l, 0 ≤ a ∧ a < P := by
  intro l
  induction l with
  | nil => intro ts ld best z _ _ a ha; simp at ha
  | cons a l ih =>
    intro ts ld best z hl h
    cases ts with
    | nil => simp at hl
    | cons t ts =>
      rw [List.zip_cons_cons] at h
      unfold finF at h
      dsimp only at h
      by_cases hc : a < 0 ∨ (P : Int) ≤ a
      · rw [if_pos hc] at h; cases h
      · rw [if_neg hc] at h
        intro x hx
        rcases List.mem_cons.1 hx with rfl | hx
        · omega
        · exact ih ts _ _ z (by simpa using hl) h x hx
theorem free_rng {P : Nat} {F each : Int} : ∀ (ts : List Int) (f : Nat → Int × Int) (l : List Int), Free F each P ts f l → ∀ a ∈ l, 0 ≤ a ∧ a < P := by
  intro ts
  induction ts with
  | nil => intro f l h a ha; rw [show l = [] from h] at ha; simp at ha
  | cons t ts ih =>
    intro f l h a ha
    obtain ⟨b, l', rfl, h1, _, _, h4⟩ := h
    rcases List.mem_cons.1 ha with rfl | ha
    · omega
    · exact ih _ _ h4 a ha
theorem free_sums {P : Nat} {F each : Int} : ∀ (ts : List Int) (f : Nat → Int × Int) (l : List Int), (∀ k, (f k).1 ≤ F) → Free F each P ts f l → ∀ k : Nat, (f k).1 + zl l ts k ≤ F := by
  intro ts
  induction ts with
  | nil => intro f l h0 h k; rw [show l = [] from h]; simp [zl]; exact h0 k
  | cons t ts ih =>
    intro f l h0 h k
    obtain ⟨b, l', rfl, h1, h2, _, h4⟩ := h
    have a := ih (put f b t) l' (fun k => by
      have := h0 k
      unfold put
      split
      · exact h2
      · exact this) h4 k
    rw [zl_cons]
    unfold put at a
    by_cases e : k = b
    · subst e; rw [if_pos rfl] at a; rw [if_pos rfl]; dsimp only at a; omega
    · rw [if_neg e] at a; rw [if_neg (by omega)]; omega
theorem maxF_lls_le {ld : Nat → Int} {P : Nat} {F : Int} (hP : 1 ≤ P) (h : ∀ k, k < P → ld k ≤ F) : maxF (lls ld P) ≤ F := by
  refine maxF_le _ _ (by rw [lls_length]; omega) (fun x hx => ?_)
  unfold lls at hx
  obtain ⟨k, hk, rfl⟩ := List.mem_map.1 hx
  exact h k (by simpa using hk)
theorem maxF_lls_ge (ld : Nat → Int) {P k : Nat} (hk : k < P) : ld k ≤ maxF (lls ld P) := by
  have a := maxF_ge (lls ld P) k (by rw [lls_length]; exact hk)
  rwa [lls_get _ hk] at a
theorem zl_out {P : Nat} : ∀ (l ts : List Int) (k : Nat), (∀ a ∈ l, 0 ≤ a ∧ a < P) → P ≤ k → zl l ts k = 0 := by
  intro l
  induction l with
  | nil => intro ts k _ _; simp [zl]
  | cons a l ih =>
    intro ts k h hk
    cases ts with
    | nil => simp [zl]
    | cons t ts =>
      rw [zl_cons, ih ts k (fun z hz => h z (List.mem_cons_of_mem _ hz)) hk, if_neg (by have := h a List.mem_cons_self; omega)]
      omega
theorem zl_nonneg : ∀ (l ts : List Int) (k : Nat), (∀ t ∈ ts, 0 ≤ t) → 0 ≤ zl l ts k := by
  intro l
  induction l with
  | nil => intro ts k _; simp [zl]
  | cons a l ih =>
    intro ts k h
    cases ts with
    | nil => simp [zl]
    | cons t ts =>
      rw [zl_cons]
      have := ih ts k (fun z hz => h z (List.mem_cons_of_mem _ hz))
      have := h t List.mem_cons_self
      split <;> omega
/-- An assignment has its greatest load as its finish. -/
theorem finF_free {P : Nat} {ts l : List Int} {z : Int} (hms : MOK ts) (hP : 1 ≤ P) (hl : l.length = ts.length) (h : finF P (List.zip l ts) (fun _ => 0) 0 = some z) : 0 ≤ z ∧ Free z 12 P ts zf l ∧ ∀ F, Free F 12 P ts zf l → 0 ≤ F → z ≤ F := by
  have hb := hms.bds
  have hr := finF_rng l ts _ _ z hl h
  rw [finF_some l ts _ _ hl (fun t ht => (hb t ht).1) (maxF_zero hP).symm hr] at h
  injection h with h
  have h0 : 0 ≤ z := by
    have a := maxF_lls_ge (fun k => (0 : Int) + zl l ts k) (show 0 < P by omega)
    have b := zl_nonneg l ts 0 (fun t ht => (hb t ht).1)
    omega
  refine ⟨h0, ?_, fun F hf hF => ?_⟩
  · refine free_of_sums ts zf l hl (fun t ht => (hb t ht).1) hr (fun k => ?_) (fun k => by have := hms.1; simp [zf]; omega)
    show 0 + zl l ts k ≤ z
    rcases Nat.lt_or_ge k P with hk | hk
    · rw [← h]; exact maxF_lls_ge (fun k => (0 : Int) + zl l ts k) hk
    · rw [zl_out l ts k hr hk]; omega
  · rw [← h]
    exact maxF_lls_le hP (fun k _ => by
      have a := free_sums ts zf l (fun k => by simp [zf]; exact hF) hf k
      simpa [zf] using a)
theorem finF_of_free {P : Nat} {ts l : List Int} {F : Int} (hms : MOK ts) (hP : 1 ≤ P) (h : Free F 12 P ts zf l) : ∃ z, finF P (List.zip l ts) (fun _ => 0) 0 = some z :=
  ⟨_, finF_some l ts _ _ h.length (fun t ht => (hms.bds t ht).1) (maxF_zero hP).symm (free_rng ts zf l h)⟩
theorem fin_is {P : Nat} {ts l : List Int} {F : Int} (hms : MOK ts) (hP : 1 ≤ P) (h : ShIs ts P F l) : finF P (List.zip l ts) (fun _ => 0) 0 = some F := by
  obtain ⟨z, hz⟩ := finF_of_free hms hP h.2.1
  obtain ⟨a, b, c⟩ := finF_free hms hP h.2.1.length hz
  have h1 := c F h.2.1 h.1
  rcases (show z < F ∨ z = F by omega) with h2 | h2
  · exact absurd b (h.2.2.1 z l a h2)
  · rw [hz, h2]
theorem lpt_loads {ts : List Int} {P : Nat} (hP : 1 ≤ P) : (∀ k, (lptF ts P (longOrd ts)).1 k = zl (lptF ts P (longOrd ts)).2 ts k) ∧ (lptF ts P (longOrd ts)).2.length = ts.length := by
  have hlen : (lptF ts P (longOrd ts)).2.length = ts.length := by unfold lptF; rw [lpt_len]; simp
  obtain ⟨h1, h2⟩ := lpt_spec ts (P := P) (by omega) (longOrd ts) (fun _ => 0, List.replicate ts.length 0) (longOrd_nodup ts) (fun x hx => by simpa using (longOrd_mem ts x).1 hx)
  refine ⟨fun k => ?_, hlen⟩
  have a := h1 k
  rw [given_perm ts _ k (show (longOrd ts).Perm (upto ts.length) from srt_perm _ _)] at a
  dsimp only at a
  rw [Int.zero_add] at a
  unfold zl
  rw [zip_upto _ _ _ hlen]
  exact a
theorem fin_long {P : Nat} {ts : List Int} (hms : MOK ts) (hP : 1 ≤ P) : finF P (List.zip (lptF ts P (longOrd ts)).2 ts) (fun _ => 0) 0 = some (mostF ts P) := by
  obtain ⟨h1, h2⟩ := lpt_loads (ts := ts) hP
  obtain ⟨_, _, hf⟩ := most_free hms hP
  rw [finF_some _ ts _ _ h2 (fun t ht => (hms.bds t ht).1) (maxF_zero hP).symm (free_rng ts zf _ hf)]
  congr 1
  unfold mostF
  congr 2
  funext k
  rw [h1 k]
  omega

/-! ### The bound -/
theorem sum_filter (p : Int → Bool) (f : Int → Int) : ∀ O : List Int, (O.map fun x => if p x = true then f x else 0).sum = ((O.filter p).map f).sum := by
  intro O
  induction O with
  | nil => rfl
  | cons x O ih =>
    rw [List.map_cons, List.sum_cons, List.filter_cons, ih]
    split
    · rw [List.map_cons, List.sum_cons]
    · omega
theorem tot_one (a c : Int) (P : Nat) (h : 0 ≤ a ∧ a < P) : tot P (fun k => if a = (k : Int) then c else 0) = c := by
  have key : ∀ n : Nat, tot n (fun k => if a = (k : Int) then c else 0) = if a < n then c else 0 := by
    intro n
    induction n with
    | zero => unfold tot; rw [if_neg (by omega)]
    | succ n ih =>
      unfold tot
      rw [ih]
      dsimp only
      by_cases h1 : a < n
      · rw [if_pos h1, if_neg (by omega), if_pos (by omega)]; omega
      · by_cases h2 : a = n
        · rw [if_neg h1, if_pos h2, if_pos (by omega)]; omega
        · rw [if_neg h1, if_neg h2, if_neg (by omega)]; omega
  rw [key, if_pos h.2]
theorem tot_parts (gv : List Int) (h : Int → Int) (P : Nat) : ∀ O : List Int, (∀ x ∈ O, 0 ≤ rd gv x ∧ rd gv x < P) → tot P (fun k => (O.map fun x => if rd gv x = (k : Int) then h x else 0).sum) = (O.map h).sum := by
  intro O
  induction O with
  | nil => intro _; simp [tot_zero]
  | cons x O ih =>
    intro hr
    simp only [List.map_cons, List.sum_cons]
    rw [tot_add, tot_one _ _ _ (hr x List.mem_cons_self), ih (fun z hz => hr z (List.mem_cons_of_mem _ hz))]
theorem tot_const (c : Int) : ∀ P : Nat, tot P (fun _ => c) = P * c
  | 0 => by simp [tot]
  | P + 1 => by unfold tot; rw [tot_const c P, Int.natCast_add, Int.add_mul]; simp
/-- A press that is full but for less than t. -/
theorem two_low (ts : List Int) (F t : Int) (ht : t ≤ F) : ∀ xs : List Int, F - t < (xs.map (rd ts)).sum → 2 ≤ (xs.map fun x => if F - t < rd ts x then (2 : Int) else 1).sum := by
  intro xs h
  have pos : ∀ l : List Int, 0 ≤ (l.map fun x => if F - t < rd ts x then (2 : Int) else 1).sum := by
    intro l
    induction l with
    | nil => simp
    | cons a l ih => rw [List.map_cons, List.sum_cons]; split <;> omega
  match xs, h with
  | [], h => simp at h; omega
  | [x], h =>
    simp only [List.map_cons, List.map_nil, List.sum_cons, List.sum_nil, Int.add_zero] at h ⊢
    rw [if_pos h]; omega
  | x :: y :: l, _ =>
    rw [List.map_cons, List.map_cons, List.sum_cons, List.sum_cons]
    have := pos l
    split <;> split <;> omega
/-- A press with at most F, of works longer than a third of F. -/
theorem two_high (ts : List Int) (F t : Int) (ht : F < 3 * t) (ht2 : t ≤ F) : ∀ xs : List Int, (∀ x ∈ xs, t ≤ rd ts x) → (xs.map (rd ts)).sum ≤ F → (xs.map fun x => if F - t < rd ts x then (2 : Int) else 1).sum ≤ 2 := by
  intro xs hx h
  match xs, hx, h with
  | [], _, _ => simp
  | [x], _, _ =>
    simp only [List.map_cons, List.map_nil, List.sum_cons, List.sum_nil, Int.add_zero]
    split <;> omega
  | [x, y], hx, h =>
    have h1 := hx x (by simp)
    have h2 := hx y (by simp)
    simp only [List.map_cons, List.map_nil, List.sum_cons, List.sum_nil, Int.add_zero] at h ⊢
    rw [if_neg (by omega), if_neg (by omega)]; omega
  | x :: y :: z :: l, hx, h =>
    exfalso
    have h1 := hx x (by simp)
    have h2 := hx y (by simp)
    have h3 := hx z (by simp)
    have pos : ∀ l : List Int, (∀ x ∈ l, t ≤ rd ts x) → 0 ≤ (l.map (rd ts)).sum := by
      intro l
      induction l with
      | nil => intro _; simp
      | cons a l ih => intro h; rw [List.map_cons, List.sum_cons]; have := ih (fun z hz => h z (List.mem_cons_of_mem _ hz)); have := h a List.mem_cons_self; omega
    have h4 := pos l (fun w hw => hx w (by simp [hw]))
    simp only [List.map_cons, List.sum_cons] at h
    omega
theorem minK_le (ld : Nat → Int) : ∀ k j, j < k → ld (minK ld k) ≤ ld j := by
  intro k
  induction k with
  | zero => intro j h; omega
  | succ k ih =>
    intro j hj
    rw [minK_succ]
    rcases (show j < k ∨ j = k by omega) with h | rfl
    · have := ih j h
      split <;> omega
    · split <;> omega
theorem given_append (ts gv : List Int) (k : Nat) (O O' : List Int) : given ts gv k (O ++ O') = given ts gv k O + given ts gv k O' := by
  unfold given; rw [List.map_append, List.sum_append]
theorem given_filter (ts gv : List Int) (k : Nat) (O : List Int) : given ts gv k O = ((O.filter fun x => decide (rd gv x = (k : Int))).map (rd ts)).sum := by
  unfold given
  rw [← sum_filter]
  congr 1
  apply List.map_congr_left
  intro x _
  simp
theorem given_nonneg (ts gv : List Int) (k : Nat) (hms : MOK ts) : ∀ O : List Int, 0 ≤ given ts gv k O := by
  intro O
  unfold given
  induction O with
  | nil => simp
  | cons x O ih =>
    rw [List.map_cons, List.sum_cons]
    have : 0 ≤ rd ts x := by
      by_cases hi : x.toNat < ts.length
      · have := hms.2 x.toNat hi
        unfold rd; omega
      · unfold rd; rw [List.getD_eq_getElem?_getD, List.getElem?_eq_none (by omega)]; simp
    split <;> omega
/-- One step of the rule: the work's end is within the bound. -/
theorem graham_step {ts : List Int} {P : Nat} {F : Int} {l : List Int} (hms : MOK ts) (hP : 1 ≤ P) (hF : 0 ≤ F) (hfr : Free F 12 P ts zf l) (A B : List Int) (o : Int) (hO : longOrd ts = A ++ o :: B) :
    3 * (P * ((A.foldl (lstep ts P) (fun _ => 0, List.replicate ts.length 0)).1 (minK (A.foldl (lstep ts P) (fun _ => 0, List.replicate ts.length 0)).1 P) + rd ts o)) ≤ 4 * (P * F) - F := by
  have hnd := longOrd_nodup ts
  have hpw := longOrd_pw ts
  have hmem : ∀ x, x ∈ A ++ o :: B → 0 ≤ x ∧ x < ts.length := fun x hx => (longOrd_mem ts x).1 (by rw [hO]; exact hx)
  rw [hO] at hnd hpw
  have hndA := (List.nodup_append.1 hnd).1
  obtain ⟨h1, h2⟩ := lpt_spec ts (P := P) (by omega) A (fun _ => 0, List.replicate ts.length 0) hndA (fun x hx => by
    have := hmem x (List.mem_append_left _ hx)
    simpa using this)
  generalize hS : A.foldl (lstep ts P) (fun _ => 0, List.replicate ts.length 0) = S at h1 h2 ⊢
  have h1' : ∀ k, S.1 k = given ts S.2 k A := fun k => by have := h1 k; dsimp only at this; omega
  have hmin := minK_le S.1 P
  obtain ⟨L, hL⟩ : ∃ z, z = S.1 (minK S.1 P) := ⟨_, rfl⟩
  rw [← hL] at hmin ⊢
  obtain ⟨t, ht⟩ : ∃ z, z = rd ts o := ⟨_, rfl⟩
  have ho := hmem o (by simp)
  have htb : 1 ≤ t ∧ t ≤ 1073741824 := by rw [ht]; exact hms.at_ o ho.1 ho.2
  have hbb : ∀ x ∈ A, t ≤ rd ts x := fun x hx => by
    have := (List.pairwise_append.1 hpw).2.2 x hx o List.mem_cons_self
    unfold bet at this
    omega
  -- the other assignment
  have hll := hfr.length
  have hlr : ∀ x : Int, 0 ≤ x ∧ x < ts.length → 0 ≤ rd l x ∧ rd l x < P := fun x hx => by
    refine free_rng ts zf l hfr _ ?_
    unfold rd
    rw [List.getD_eq_getElem?_getD, List.getElem?_eq_getElem (show x.toNat < l.length by omega)]
    exact List.getElem_mem _
  have hload : ∀ k, given ts l k (A ++ [o]) ≤ F := fun k => by
    have a := free_sums ts zf l (fun k => by simp [zf]; exact hF) hfr k
    have b := given_nonneg ts l k hms B
    have e : given ts l k (A ++ o :: B) = zl l ts k := by
      unfold zl
      rw [zip_upto _ _ _ hll, ← given_perm ts l k (show (longOrd ts).Perm (upto ts.length) from srt_perm _ _), hO]
    have e2 : A ++ o :: B = (A ++ [o]) ++ B := by simp
    rw [e2, given_append] at e
    simp only [zf, Int.zero_add] at a
    omega
  have hAo : ∀ x ∈ A ++ [o], 0 ≤ x ∧ x < ts.length := fun x hx => hmem x (by
    rcases List.mem_append.1 hx with h | h
    · exact List.mem_append_left _ h
    · rw [List.mem_singleton.1 h]; simp)
  have tF : t ≤ F := by
    have a := free_ge ts zf l (fun _ => by simp [zf]) (fun z hz => (hms.bds z hz).1) hfr t
    refine a ?_
    rw [ht]; unfold rd
    rw [List.getD_eq_getElem?_getD, List.getElem?_eq_getElem (show o.toNat < ts.length by omega)]
    exact List.getElem_mem _
  have hP' : (1 : Int) ≤ P := by omega
  by_cases hc : 3 * t ≤ F
  · -- a short work
    have s1 : P * L ≤ (A.map (rd ts)).sum := by
      rw [← tot_parts S.2 (rd ts) P A h2, ← tot_const]
      refine tot_le P (fun k hk => ?_)
      have a := hmin k hk
      rw [h1' k] at a
      exact a
    have s2 : (A.map (rd ts)).sum + t ≤ P * F := by
      have a := tot_parts l (rd ts) P (A ++ [o]) (fun x hx => hlr x (hAo x hx))
      rw [List.map_append, List.sum_append] at a
      simp only [List.map_cons, List.map_nil, List.sum_cons, List.sum_nil, Int.add_zero] at a
      rw [← ht] at a
      rw [← a, ← tot_const]
      exact tot_le P (fun k _ => hload k)
    have s3 : (P : Int) * (L + t) = P * L + P * t := Int.mul_add _ _ _
    have s4 : (P : Int) * (3 * t) - 3 * t ≤ P * F - F := by
      have : ((P : Int) - 1) * (3 * t) ≤ (P - 1) * F := Int.mul_le_mul_of_nonneg_left hc (by omega)
      rw [Int.sub_mul, Int.sub_mul] at this
      omega
    have s5 : (P : Int) * (3 * t) = 3 * (P * t) := by rw [Int.mul_left_comm]
    rw [← ht, s3]
    omega
  · -- a long one
    have key : L + t ≤ F := by
      rcases Int.lt_or_le F (L + t) with hgt | hle
      rotate_left
      · exact hle
      exfalso
      have w1 : (P : Int) * 2 ≤ (A.map fun x => if F - t < rd ts x then (2 : Int) else 1).sum := by
        rw [← tot_parts S.2 (fun x => if F - t < rd ts x then (2 : Int) else 1) P A h2, ← tot_const]
        refine tot_le P (fun k hk => ?_)
        have a := hmin k hk
        rw [h1' k, given_filter] at a
        have b := two_low ts F t tF _ (show F - t < ((A.filter fun x => decide (rd S.2 x = (k : Int))).map (rd ts)).sum by omega)
        rw [← sum_filter] at b
        simpa using b
      have w2 : ((A ++ [o]).map fun x => if F - t < rd ts x then (2 : Int) else 1).sum ≤ (P : Int) * 2 := by
        rw [← tot_parts l (fun x => if F - t < rd ts x then (2 : Int) else 1) P (A ++ [o]) (fun x hx => hlr x (hAo x hx)), ← tot_const]
        refine tot_le P (fun k hk => ?_)
        have a := hload k
        rw [given_filter] at a
        have b := two_high ts F t (by omega) tF _ (fun x hx => by
          have hx2 := (List.mem_filter.1 hx).1
          rcases List.mem_append.1 hx2 with h | h
          · exact hbb x h
          · rw [List.mem_singleton.1 h, ht]; exact Int.le_refl _) a
        rw [← sum_filter] at b
        simpa using b
      rw [List.map_append, List.sum_append] at w2
      have w3 : 1 ≤ ([o].map fun x => if F - t < rd ts x then (2 : Int) else 1).sum := by
        simp only [List.map_cons, List.map_nil, List.sum_cons, List.sum_nil, Int.add_zero]
        split <;> omega
      omega
    have s1 : (P : Int) * (L + t) ≤ P * F := Int.mul_le_mul_of_nonneg_left key (by omega)
    have s2 : (1 : Int) * F ≤ P * F := Int.mul_le_mul_of_nonneg_right hP' hF
    rw [← ht]
    omega
theorem graham {ts : List Int} {P : Nat} {F : Int} {l : List Int} (hms : MOK ts) (hP : 1 ≤ P) (hF : 0 ≤ F) (hfr : Free F 12 P ts zf l) : 3 * (P * mostF ts P) ≤ 4 * (P * F) - F := by
  have s2 : (1 : Int) * F ≤ P * F := Int.mul_le_mul_of_nonneg_right (by omega) hF
  have key : ∀ (B A : List Int), longOrd ts = A ++ B → 3 * (P * maxF (lls (A.foldl (lstep ts P) (fun _ => 0, List.replicate ts.length 0)).1 P)) ≤ 4 * (P * F) - F →
      3 * (P * maxF (lls ((A ++ B).foldl (lstep ts P) (fun _ => 0, List.replicate ts.length 0)).1 P)) ≤ 4 * (P * F) - F := by
    intro B
    induction B with
    | nil => intro A _ h; rw [List.append_nil]; exact h
    | cons o B ih =>
      intro A hO h
      have hst := graham_step hms hP hF hfr A B o hO
      have h3 := ih (A ++ [o]) (by rw [hO]; simp) (by
        rw [List.foldl_append]
        show 3 * (P * maxF (lls (upd (A.foldl (lstep ts P) (fun _ => 0, List.replicate ts.length 0)).1 (minK (A.foldl (lstep ts P) (fun _ => 0, List.replicate ts.length 0)).1 P) (rd ts o)) P)) ≤ _
        have ho : 0 ≤ o ∧ o < ts.length := (longOrd_mem ts o).1 (by rw [hO]; simp)
        rw [maxF_upd _ _ (minK_lt _ (by omega) P (Nat.le_refl _)) (by have := hms.at_ o ho.1 ho.2; omega)]
        rcases Int.le_total (maxF (lls (A.foldl (lstep ts P) (fun _ => 0, List.replicate ts.length 0)).1 P)) ((A.foldl (lstep ts P) (fun _ => 0, List.replicate ts.length 0)).1 (minK (A.foldl (lstep ts P) (fun _ => 0, List.replicate ts.length 0)).1 P) + rd ts o) with hle | hle
        · rw [Int.max_eq_right hle]; exact hst
        · rw [Int.max_eq_left hle]; exact h)
      rw [show A ++ o :: B = A ++ [o] ++ B by simp]
      exact h3
  have h := key (longOrd ts) [] rfl (by
    show 3 * (P * maxF (lls (fun _ => 0) P)) ≤ _
    rw [maxF_zero hP]
    omega)
  rw [List.nil_append] at h
  exact h

/-! ### What the check of an assignment answers: its walk. -/
def finishF (ts o : List Int) (P : Nat) : Option Int := if o.length = ts.length then finF P (List.zip o ts) (fun _ => 0) 0 else none
theorem zip_drop (o ts : List Int) (i : Int) (h0 : 0 ≤ i) (h1 : i < o.length) (h2 : i < ts.length) : (List.zip o ts).drop i.toNat = (rd o i, rd ts i) :: (List.zip o ts).drop (i + 1).toNat := by
  have hl : i.toNat < (List.zip o ts).length := by rw [List.length_zip]; omega
  rw [List.drop_eq_getElem_cons hl, show (i + 1).toNat = i.toNat + 1 by omega]
  congr 1
  rw [List.getElem_zip]
  simp [rd, List.getD_eq_getElem?_getD, List.getElem?_eq_getElem (show i.toNat < o.length by omega), List.getElem?_eq_getElem (show i.toNat < ts.length by omega)]
theorem finF_bad {P : Nat} {q : Int × Int} {l : List (Int × Int)} {ld : Nat → Int} {best : Int} (h : q.1 < 0 ∨ (P : Int) ≤ q.1) : finF P (q :: l) ld best = none := by
  unfold finF; rw [if_pos h]
theorem finF_ok {P : Nat} {a t : Int} {l : List (Int × Int)} {ld : Nat → Int} {best : Int} (b : Nat) (hb : a = b) (h : b < P) : finF P ((a, t) :: l) ld best = finF P l (upd ld b t) (max best (ld b + t)) := by
  subst hb
  show (if (b : Int) < 0 ∨ (P : Int) ≤ (b : Int) then none else finF P l (upd ld (b : Int).toNat t) (max best (ld (b : Int).toNat + t))) = _
  rw [if_neg (by omega), Int.toNat_natCast]
structure FM (g : Nat) (P : Nat) (ld : Nat → Int) (w0 w : World) : Prop where
  d : Blk w g (ints (lls ld P)) 3
  b : Below w0.heap.size w0 w
  s : w0.heap.size ≤ g
theorem FM.setD {g P : Nat} {ld : Nat → Int} {w0 w : World} (h : FM g P ld w0 w) (p : Nat) {q t : Int} (hq : q = ld p + t) : FM g P (upd ld p t) w0 (w.setCell ⟨g, p, none⟩ (.int .i64 q)).drew :=
  { h with
    d := by
      have a := h.d.set p (.int .i64 q)
      rw [ints_set, hq, lls_set] at a
      rw [hq]; exact a.drew
    b := below_drew (h.b.setCell h.s _) }
theorem FM.start (P : Nat) (w : World) : FM w.heap.size P (fun _ => 0) w (w.alloc (.cells (madeCells #[.int .i64 0] P) 3)) :=
  { d := by rw [made_ints, lls_zero]; exact Blk.new _ _ _, b := below_alloc (Below.refl _ _) _, s := Nat.le_refl _ }

set_option maxRecDepth 100000 in
set_option maxHeartbeats 8000000 in
theorem finish_any (w : World) (A B : Option Addr) (c d : Nat) (ts o : List Int) (P : Nat) (h : (Kd.int .i64).C w A ts.length ts) (k : (Kd.int .i64).C w B o.length o) (hms : MOK ts) (hP1 : 1 ≤ P) (hP : P ≤ 4) :
    Calls Try.prog 27 #[.slice A ts.length c, .slice B o.length d, .int .i64 P] w fun e w' => e = .returned (.tuple #[.int .i64 ((finishF ts o P).getD 0), .bool (finishF ts o P).isSome]) ∧ Below w.heap.size w w' := by
  have hl1 := Kd.C_max h
  have hl2 := Kd.C_max k
  have HA := Aside0.mk h; clear h
  have HO := Aside0.mk k; clear k
  have hml := hms.1
  have HM := Aside0.mk hms; clear hms
  obtain ⟨r, hr⟩ : ∃ z, z = finishF ts o P := ⟨_, rfl⟩
  rw [← hr]
  unfold finishF at hr
  by_cases hlen : o.length = ts.length
  rotate_left
  · rw [if_neg hlen] at hr
    subst hr
    have hb : ((o.length : Int) != (ts.length : Int)) = true := by simp; omega
    go_enter Try.func27, Try.ntmps27
    go_wp2_with fail
    go_ret2
    exact ⟨rfl, Below.refl _ _⟩
  rw [if_pos hlen] at hr
  have HRr := Aside0.mk hr; clear hr
  have hb : ((o.length : Int) != (ts.length : Int)) = false := by simp; omega
  have hlo : (o.length : Int) = ts.length := by omega
  have hlo1 : (o.length : Int) ≤ ts.length := by omega
  have hlo2 : (ts.length : Int) ≤ o.length := by omega
  clear hlen hlo
  have mk1 := print_make (P := Try.prog) 22 3 .i64 8 Try.underlying22 info3 (by decide) P (by omega)
  have HF0 := Aside0.mk (FM.start P w)
  go_enter Try.func27, Try.ntmps27
  go_upto_region 4 with fail
  obtain ⟨g, hg⟩ : ∃ z, z = w.heap.size := ⟨_, rfl⟩
  obtain ⟨w1, hw1⟩ : ∃ z, z = w.alloc (.cells (madeCells #[.int .i64 0] P) 3) := ⟨_, rfl⟩
  have hF0 := HF0.out
  rw [← hw1] at hF0 ⊢
  rw [← hg] at hF0 ⊢
  have HF := Aside0.mk hF0
  clear mk1 hw1 hg HF0 hF0 hb
  go_wp2_with fail
  go_loopw [9, 10] (fun v9 v10 wr => ∃ (best i : Int) (ld : Nat → Int), v9 = .int .i64 best ∧ v10 = .int .i64 i ∧ 0 ≤ i ∧ i ≤ ts.length ∧ Aside0 (FM g P ld w wr) ∧ Aside0 (finF P ((List.zip o ts).drop i.toNat) ld best = r) ∧ Aside0 (∀ k, 0 ≤ ld k ∧ ld k ≤ i * 1073741824)) (fun _ v _ => ts.length - (intOf v).toNat)
  case atStart => exact ⟨0, 0, fun _ => 0, rfl, rfl, by omega, by omega, HF, ⟨HRr.out.symm⟩, ⟨fun k => by simp⟩⟩
  case round =>
    obtain ⟨best, i, ld, rfl, rfl, h0, h1, HFr, HE, HB⟩ := hrel
    by_cases hlt : i < ts.length
    · have hlt2 : i < o.length := by omega
      obtain ⟨ad, e1, g1⟩ := Kd.at_int (Kd.C_below HA.out HFr.out.b) i h0 hlt
      obtain ⟨ad2, e2, g2⟩ := Kd.at_int (Kd.C_below HO.out HFr.out.b) i h0 hlt2
      subst e1; subst e2
      have he := HE.out
      rw [zip_drop o ts i h0 hlt2 hlt] at he
      have hm := HM.out.at_ i h0 hlt
      obtain ⟨t, ht⟩ : ∃ z, z = rd ts i := ⟨_, rfl⟩
      obtain ⟨a, ha⟩ : ∃ z, z = rd o i := ⟨_, rfl⟩
      rw [← ht] at g1 he hm
      rw [← ha] at g2 he
      obtain ⟨ht0, ht1⟩ := hm
      have HE2 := Aside0.mk he
      have HRA := Aside0.mk ha
      clear he ht ha HE
      by_cases hneg : a < 0
      · have hr : r = none := by rw [← HE2.out]; exact finF_bad (.inl hneg)
        subst hr
        have d1 : decide (a < 0) = true := decide_eq_true hneg
        go_wp2_with fail
        go_ret2
        exact ⟨rfl, HFr.out.b⟩
      have d1 : decide (a < 0) = false := decide_eq_false hneg
      by_cases hbig : (P : Int) ≤ a
      · have hr : r = none := by rw [← HE2.out]; exact finF_bad (.inr hbig)
        subst hr
        have d2 : decide ((P : Int) ≤ a) = true := decide_eq_true hbig
        go_wp2_with fail
        go_ret2
        exact ⟨rfl, HFr.out.b⟩
      have d2 : decide ((P : Int) ≤ a) = false := decide_eq_false hbig
      obtain ⟨b, rfl⟩ : ∃ b : Nat, a = b := ⟨a.toNat, by omega⟩
      have hbP : b < P := by omega
      have hbPi : (b : Int) < P := by omega
      have he := HE2.out
      rw [finF_ok b rfl hbP] at he
      obtain ⟨q, hq⟩ : ∃ z, z = ld b := ⟨_, rfl⟩
      obtain ⟨M, hM⟩ : ∃ z, z = i * 1073741824 := ⟨_, rfl⟩
      have hqb := HB.out b
      rw [← hq] at he hqb
      rw [← hM] at hqb
      obtain ⟨hq0, hq1⟩ := hqb
      have hM1 : M ≤ 12884901888 := by omega
      have HMM := Aside0.mk hM; clear hM
      have HQ := Aside0.mk hq; clear hq
      have HE3 := Aside0.mk he
      clear he HE2
      have f4 : wr.cell? ⟨g, b, none⟩ = some (.int .i64 q) := by
        have a := HFr.out.d.at_ (ints_get _ (show b < (lls ld P).length by rw [lls_length]; exact hbP))
        rw [lls_get _ hbP, ← HQ.out] at a; exact a
      have f5 := HFr.out.d.free b
      go_upto_region 10 with fail
      go_cut [10] from 37 to 49 (fun v w5 => v = .int .i64 i ∧ Aside0 (FM g P (upd ld b t) w w5))
      case first =>
        go_region
        all_goals go_wp2_with fail
        all_goals go_meet
        all_goals (case rel => exact ⟨rfl, ⟨HFr.out.setD b (by rw [HQ.out])⟩⟩)
      case rest =>
      obtain ⟨rfl, HF5⟩ := hcut
      clear g1 g2 f4 f5
      obtain ⟨ad3, e3, g2⟩ := Kd.at_int (Kd.C_below HO.out HF5.out.b) i h0 hlt2
      cases e3
      rw [← HRA.out] at g2
      have hup : upd ld b t b = q + t := by unfold upd; rw [if_pos rfl, HQ.out]
      have f4 : wc.cell? ⟨g, b, none⟩ = some (.int .i64 (q + t)) := by
        have a := HF5.out.d.at_ (ints_get _ (show b < (lls (upd ld b t) P).length by rw [lls_length]; exact hbP))
        rw [lls_get _ hbP, hup] at a; exact a
      have HB2 : Aside0 (∀ k, 0 ≤ upd ld b t k ∧ upd ld b t k ≤ (i + 1) * 1073741824) := ⟨fun k => by
        have a := HB.out k
        have b' := HB.out b
        unfold upd
        split <;> omega⟩
      have HE4 : Aside0 (finF P ((List.zip o ts).drop (i + 1).toNat) (upd ld b t) (max best (q + t)) = r) := ⟨by have := HE3.out; rw [HQ.out]; rw [HQ.out] at this; exact this⟩
      clear hup
      go_wp2_with fail
      go_roundw
      case rel => exact ⟨max best (q + t), i + 1, upd ld b t, by go_num, by go_num, by omega, by omega, HF5, HE4, HB2⟩
      case measure => show ts.length - (i + 1).toNat < ts.length - i.toNat; omega
    · go_wp2_with fail
      go_ret2
      have he := HE.out
      rw [List.drop_eq_nil_of_le (by rw [List.length_zip]; omega)] at he
      rw [← he]
      exact ⟨rfl, HFr.out.b⟩

end Go.Proofs.Ytnoocdobldchoaa
