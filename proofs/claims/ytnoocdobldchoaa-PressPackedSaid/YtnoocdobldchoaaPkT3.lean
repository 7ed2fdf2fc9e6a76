/- Both searches over numbers of boxes come to one number and one packing; both bounds are one. -/
import Derived.Test.YtnoocdobldchoaaPkT2
import Derived.Test.YtnoocdobldchoaaPkRPack
namespace Go.Proofs.Ytnoocdobldchoaa

def zf : Nat → Int × Int := fun _ => (0, 0)
theorem no12_zf : (fun b => no12.getD b (0, 0)) = zf := by funext b; exact no12_get b
theorem zeros_zf (k : Nat) : (fun b => (zeros k).getD b (0, 0)) = zf := by funext b; exact zeros_get k b

theorem mem_getD {ms : List Int} {m : Int} (h : m ∈ ms) : ∃ i, i < ms.length ∧ ms.getD i 0 = m := by
  obtain ⟨i, hi, e⟩ := List.mem_iff_getElem.1 h
  exact ⟨i, hi, by rw [List.getD_eq_getElem?_getD, List.getElem?_eq_getElem hi]; simpa using e⟩
theorem MOK.pos {ms : List Int} (h : MOK ms) : ∀ m ∈ ms, 1 ≤ m := fun m hm => by
  obtain ⟨i, hi, rfl⟩ := mem_getD hm
  exact (h.2 i hi).1

/-- Each thing in a box of its own. -/
theorem free_own {most each : Int} (he : 1 ≤ each) : ∀ (ms : List Int) (start : Nat) (f : Nat → Int × Int), (∀ m ∈ ms, m ≤ most) → (∀ b, start ≤ b → f b = (0, 0)) → ∃ l, Free most each ((start + ms.length : Nat) : Int) ms f l := by
  intro ms
  induction ms with
  | nil => intro start f _ _; exact ⟨[], rfl⟩
  | cons m ms ih =>
    intro start f hm hf
    obtain ⟨l, hl⟩ := ih (start + 1) (put f start m) (fun x hx => hm x (List.mem_cons_of_mem _ hx)) (fun b hb => by unfold put; rw [if_neg (by omega)]; exact hf b (by omega))
    refine ⟨start :: l, start, l, rfl, by simp; omega, by rw [hf start (Nat.le_refl _)]; simpa using hm m List.mem_cons_self, by rw [hf start (Nat.le_refl _)]; show (0 : Int) < each; omega, ?_⟩
    rw [show start + (m :: ms).length = start + 1 + ms.length by simp; omega]
    exact hl

section
variable {ms : List Int} {most each : Int}
/-- The program's search for k boxes. -/
theorem dfs12 (hms : ms.length ≤ 12) (he : 1 ≤ each) (k : Nat) :
    (∀ l, dfs most each k ms 0 no12 = some l → Way most each k ms 0 zf l ∧ ∀ l', Free most each k ms zf l' → LexLe l l') ∧ (dfs most each k ms 0 no12 = none ↔ ¬ ∃ l, Free most each k ms zf l) := by
  obtain ⟨h1, h2⟩ := dfs_spec (most := most) (each := each) (limit := k) ms 0 no12 (by omega) (.inr (by simp [no12]; omega)) (fun b => by rw [no12_get]; simp; omega)
  rw [no12_zf] at h1 h2
  have hlex : ∀ l, dfs most each k ms 0 no12 = some l → ∀ l', Free most each k ms zf l' → LexLe l l' := fun l h l' hf => by
    obtain ⟨l2, hw, hl⟩ := hf.way 0 (fun _ _ => rfl)
    exact ((h1 l h).2 l2 hw).trans hl
  refine ⟨fun l h => ⟨(h1 l h).1, hlex l h⟩, fun h => ?_, fun h => ?_⟩
  · rintro ⟨l, hf⟩
    obtain ⟨l2, hw, _⟩ := hf.way 0 (fun _ _ => rfl)
    exact h2 h l2 hw
  · cases hd : dfs most each k ms 0 no12 with
    | none => rfl
    | some l => exact absurd ⟨l, (h1 l hd).1.free⟩ h
theorem freeF_sum (nb : Nat) : freeF ms nb most = nb * most - ms.sum := by
  have key : ∀ (l : List Int) (x : Int), l.foldl (· - ·) x = x - l.sum := by
    intro l
    induction l with
    | nil => intro x; simp
    | cons m l ih => intro x; rw [List.foldl_cons, ih, List.sum_cons]; omega
  exact key ms _
theorem assignF_spec (he : 1 ≤ each) (hmost : 0 ≤ most) (k : Nat) :
    (∀ l, assignF ms k most each = some l → Way most each k ms 0 zf l ∧ ∀ l', Free most each k ms zf l' → LexLe l l') ∧ (assignF ms k most each = none ↔ ¬ ∃ l, Free most each k ms zf l) := by
  obtain ⟨h1, h2⟩ := dfs_spec (most := most) (each := each) (limit := k) ms 0 (zeros k) (by omega) (.inl (by simp [zeros])) (fun b => by rw [zeros_get]; simp; omega)
  rw [zeros_zf] at h1 h2
  by_cases hc : ms ≠ [] ∧ freeF ms k most < 0
  · have hn : ¬ ∃ l, Free most each k ms zf l := by
      rintro ⟨l, hf⟩
      have := free_sum ms zf l hf (fun _ => hmost)
      rw [show (fun j => (zf j).1) = fun _ => 0 from rfl, tot_zero] at this
      have h3 := freeF_sum (ms := ms) (most := most) k
      omega
    have e : assignF ms k most each = none := by unfold assignF; rw [if_pos hc]
    rw [e]
    exact ⟨fun l h => by simp at h, fun _ => hn, fun _ => rfl⟩
  · have e : assignF ms k most each = dfs most each k ms 0 (zeros k) := by unfold assignF; rw [if_neg hc]
    rw [e]
    have hlex : ∀ l, dfs most each k ms 0 (zeros k) = some l → ∀ l', Free most each k ms zf l' → LexLe l l' := fun l h l' hf => by
      obtain ⟨l2, hw, hl⟩ := hf.way 0 (fun _ _ => rfl)
      exact ((h1 l h).2 l2 hw).trans hl
    refine ⟨fun l h => ⟨(h1 l h).1, hlex l h⟩, fun h => ?_, fun h => ?_⟩
    · rintro ⟨l, hf⟩
      obtain ⟨l2, hw, _⟩ := hf.way 0 (fun _ _ => rfl)
      exact h2 h l2 hw
    · cases hd : dfs most each k ms 0 (zeros k) with
      | none => rfl
      | some l => exact absurd ⟨l, (h1 l hd).1.free⟩ h

theorem boundF_nonneg : 0 ≤ boundF ms most := by
  unfold boundF
  exact foldl_max_ge _ (fun b x => by split <;> omega) 0 _ _ (.inl (by omega))
theorem own_ways (h : thingsE ms most each = 0) : ∃ l, Free most each ms.length ms zf l := by
  obtain ⟨hms, _, he, hle⟩ := MOK.of_E h
  have := free_own (most := most) he.1 ms 0 zf (fun m hm => by obtain ⟨i, hi, rfl⟩ := mem_getD hm; exact hle i hi) (fun _ _ => rfl)
  rwa [Nat.zero_add] at this
theorem pack_hex (h : thingsE ms most each = 0) : ∃ n0 : Nat, boundF ms most ≤ n0 ∧ n0 ≤ 100 ∧ 0 ≤ boundF ms most ∧ dfs most each n0 ms 0 no12 ≠ none := by
  obtain ⟨hms, hm, he, hle⟩ := MOK.of_E h
  obtain ⟨l, hl⟩ := own_ways h
  refine ⟨ms.length, boundF_le hm.1 hl hms.pos, by have := hms.1; omega, boundF_nonneg, fun hn => ?_⟩
  exact (dfs12 hms.1 he.1 ms.length).2.1 hn ⟨l, hl⟩
theorem rpack_hex (h : thingsE ms most each = 0) : ∃ n0 : Nat, n0 ≤ ms.length ∧ assignF ms n0 most each ≠ none := by
  obtain ⟨hms, hm, he, hle⟩ := MOK.of_E h
  obtain ⟨l, hl⟩ := own_ways h
  exact ⟨ms.length, Nat.le_refl _, fun hn => (assignF_spec he.1 (by omega) ms.length).2.1 hn ⟨l, hl⟩⟩
/-- One number, one packing. -/
theorem pack_one (h : thingsE ms most each = 0) {n n' : Nat} {l l' : List Int} (h1 : boundF ms most ≤ n) (h2 : ∀ k : Nat, boundF ms most ≤ k → k < n → dfs most each k ms 0 no12 = none) (h3 : dfs most each n ms 0 no12 = some l)
    (g2 : ∀ k : Nat, k < n' → assignF ms k most each = none) (g3 : assignF ms n' most each = some l') : n = n' ∧ l = l' := by
  obtain ⟨hms, hm, he, hle⟩ := MOK.of_E h
  have a1 := (dfs12 hms.1 he.1 n).1 l h3
  have b1 := (assignF_spec he.1 (by omega) n').1 l' g3
  have e : n = n' := by
    rcases Nat.lt_trichotomy n n' with hlt | e | hgt
    · exact absurd ⟨l, a1.1.free⟩ ((assignF_spec he.1 (by omega) n).2.1 (g2 n hlt))
    · exact e
    · have := boundF_le hm.1 b1.1.free hms.pos
      exact absurd ⟨l', b1.1.free⟩ ((dfs12 hms.1 he.1 n').2.1 (h2 n' this hgt))
  subst e
  exact ⟨rfl, (a1.2 l' b1.1.free).antisymm (by rw [a1.1.free.length, b1.1.free.length]) (b1.2 l a1.1.free)⟩

/-! ### Both bounds -/
def kc (most m : Int) : Int := if most < 2 * m then 1 else 0
def rc (most a m : Int) : Int := if most - a < m then 0 else if most < 2 * m then m - most else if a ≤ m then m else 0
def bf (most K R : Int) : Int := if 0 < R then K + (R + most - 1) / most else K
theorem fold_kr {a : Int} (ha2 : 2 * a ≤ most) : ∀ (l : List Int) (s : Int × Int × Int × Int), (l.foldl (bstep most a) s).1 + (l.foldl (bstep most a) s).2.1 = s.1 + s.2.1 + (l.map (kc most)).sum ∧ brest most (l.foldl (bstep most a) s) = brest most s + (l.map (rc most a)).sum := by
  intro l
  induction l with
  | nil => intro s; simp
  | cons m l ih =>
    intro s
    have := ih (bstep most a s m)
    rw [List.foldl_cons, List.map_cons, List.map_cons, List.sum_cons, List.sum_cons, this.1, this.2]
    have e1 : (bstep most a s m).1 + (bstep most a s m).2.1 = s.1 + s.2.1 + kc most m := by
      unfold bstep kc
      repeat' split
      all_goals (try dsimp only); omega
    have e2 : brest most (bstep most a s m) = brest most s + rc most a m := by
      unfold bstep rc brest
      repeat' split
      · (try dsimp only); omega
      · dsimp only; rw [Int.add_mul]; omega
      · (try dsimp only); omega
      · (try dsimp only); omega
    rw [e1, e2]; omega
theorem bval_kr {a : Int} (ha2 : 2 * a ≤ most) : bval ms most a = bf most (ms.map (kc most)).sum (ms.map (rc most a)).sum := by
  have h := fold_kr (most := most) ha2 ms (0, 0, 0, 0)
  have e : brest most (0, 0, 0, 0) = 0 := by unfold brest; simp
  rw [e] at h
  unfold bval bform bf
  rw [h.1, h.2]
  simp
theorem bf_mono (hm : 1 ≤ most) {K R R' : Int} (h : R ≤ R') : bf most K R ≤ bf most K R' := by
  unfold bf
  by_cases h1 : 0 < R
  · rw [if_pos h1, if_pos (by omega)]
    have := Int.ediv_le_ediv (a := R + most - 1) (b := R' + most - 1) (c := most) (by omega) (by omega)
    omega
  · rw [if_neg h1]
    split
    · have : 0 ≤ (R' + most - 1) / most := Int.ediv_nonneg (by omega) (by omega)
      omega
    · omega
theorem sum_le {g h : Int → Int} : ∀ (l : List Int), (∀ x ∈ l, g x ≤ h x) → (l.map g).sum ≤ (l.map h).sum
  | [], _ => by simp
  | x :: l, e => by
    rw [List.map_cons, List.map_cons, List.sum_cons, List.sum_cons]
    have := e x List.mem_cons_self
    have := sum_le l (fun y hy => e y (List.mem_cons_of_mem _ hy))
    omega
theorem sum_zero : ∀ (l : List Int), (l.map fun _ => (0 : Int)).sum = 0
  | [] => rfl
  | _ :: l => by rw [List.map_cons, List.sum_cons, sum_zero l]; rfl
theorem exists_min (p : Int → Prop) : ∀ (l : List Int), (∃ x ∈ l, p x) → ∃ x ∈ l, p x ∧ ∀ y ∈ l, p y → x ≤ y
  | [], ⟨x, hx, _⟩ => by simp at hx
  | x :: l, h => by
    by_cases hl : ∃ y ∈ l, p y
    · obtain ⟨y, hy, hpy, hmin⟩ := exists_min p l hl
      by_cases hx : p x ∧ x ≤ y
      · refine ⟨x, List.mem_cons_self, hx.1, fun z hz hpz => ?_⟩
        rcases List.mem_cons.1 hz with rfl | hz
        · exact Int.le_refl _
        · have := hmin z hz hpz; omega
      · refine ⟨y, List.mem_cons_of_mem _ hy, hpy, fun z hz hpz => ?_⟩
        rcases List.mem_cons.1 hz with rfl | hz
        · by_cases h2 : z ≤ y
          · exact absurd ⟨hpz, h2⟩ hx
          · omega
        · exact hmin z hz hpz
    · obtain ⟨y, hy, hpy⟩ := h
      rcases List.mem_cons.1 hy with rfl | hy
      · refine ⟨y, List.mem_cons_self, hpy, fun z hz hpz => ?_⟩
        rcases List.mem_cons.1 hz with rfl | hz
        · exact Int.le_refl _
        · exact absurd ⟨z, hz, hpz⟩ hl
      · exact absurd ⟨y, hy, hpy⟩ hl
theorem bval_cand (hm : 1 ≤ most) (hle : ∀ m ∈ ms, m ≤ most) {a : Int} (ha : 0 ≤ a) (ha2 : 2 * a ≤ most) : ∃ a' ∈ 0 :: ms, 2 * a' ≤ most ∧ bval ms most a ≤ bval ms most a' := by
  by_cases h : ∃ m ∈ ms, a ≤ m ∧ 2 * m ≤ most
  · obtain ⟨m, hmm, ⟨h1, h2⟩, hmin⟩ := exists_min (fun m => a ≤ m ∧ 2 * m ≤ most) ms h
    refine ⟨m, List.mem_cons_of_mem _ hmm, h2, ?_⟩
    rw [bval_kr ha2, bval_kr h2]
    refine bf_mono hm (sum_le ms (fun x hx => ?_))
    have := hle x hx
    unfold rc
    by_cases c2 : most < 2 * x
    · rw [if_pos c2]
      split <;> split <;> omega
    · have d1 : ¬ most - a < x := by omega
      have d2 : ¬ most - m < x := by omega
      rw [if_neg d1, if_neg d2, if_neg c2, if_neg c2]
      by_cases c3 : a ≤ x
      · have := hmin x hx ⟨c3, by omega⟩
        rw [if_pos c3, if_pos this]; exact Int.le_refl _
      · rw [if_neg c3, if_neg (by omega)]; exact Int.le_refl _
  · refine ⟨0, List.mem_cons_self, by omega, ?_⟩
    rw [bval_kr ha2, bval_kr (by omega)]
    have h0 : (ms.map (rc most a)).sum ≤ 0 := by
      have := sum_le (g := rc most a) (h := fun _ => 0) ms (fun x hx => by
        have h1 := hle x hx
        unfold rc
        split
        · omega
        · split
          · omega
          · split
            · rename_i h3 h4 h5; exact absurd ⟨x, hx, h5, by omega⟩ h
            · omega)
      rw [sum_zero] at this
      exact this
    have : bf most (ms.map (kc most)).sum (ms.map (rc most a)).sum = (ms.map (kc most)).sum := by unfold bf; rw [if_neg (by omega)]
    rw [this]
    unfold bf
    split
    · have : 0 ≤ ((ms.map (rc most 0)).sum + most - 1) / most := Int.ediv_nonneg (by omega) (by omega)
      omega
    · omega
theorem cand_le {a : Int} (ha : a ∈ 0 :: ms) (h2 : 2 * a ≤ most) : bval ms most a ≤ boundF ms most := by
  unfold boundF
  exact foldl_max_ge _ (fun b x => by split <;> omega) _ _ _ (.inr ⟨a, ha, fun b => by rw [if_neg (by omega)]; omega⟩)
theorem bound_one (h : thingsE ms most 1 = 0) : boundF ms most = rBoundF ms most := by
  obtain ⟨hms, ⟨hm0, hm1⟩, _, hle⟩ := MOK.of_E h
  have hle' : ∀ m ∈ ms, m ≤ most := fun m hm => by obtain ⟨i, hi, rfl⟩ := mem_getD hm; exact hle i hi
  have hr : ∀ a, rboundF ms most a ≤ boundF ms most := fun a => by
    unfold rboundF
    split
    · exact boundF_nonneg
    · obtain ⟨a', h1, h2, h3⟩ := bval_cand (ms := ms) hm0 hle' (a := a) (by omega) (by omega)
      exact Int.le_trans h3 (cand_le h1 h2)
  have hstep : ∀ b x, b ≤ rstep ms most b x := fun b x => by unfold rstep; omega
  apply Int.le_antisymm
  · unfold boundF
    refine foldl_max_le _ _ _ _ ?_ (fun a ha b hb => ?_)
    · have := (rboundF_bd ms most 0 hms hm0 hm1).1
      exact Int.le_trans this (foldl_max_ge _ hstep _ _ _ (.inl (Int.le_refl _)))
    · split
      · exact hb
      · rename_i h2
        have h3 : bval ms most a ≤ rBoundF ms most := by
          rcases List.mem_cons.1 ha with rfl | ha
          · have : rboundF ms most 0 = bval ms most 0 := by unfold rboundF; rw [if_neg (by omega)]
            rw [← this]
            exact foldl_max_ge _ hstep _ _ _ (.inl (Int.le_refl _))
          · have h4 := hms.pos a ha
            have : rboundF ms most a = bval ms most a := by unfold rboundF; rw [if_neg (by omega)]
            rw [← this]
            exact foldl_max_ge _ hstep _ _ _ (.inr ⟨a, ha, fun b => by unfold rstep; omega⟩)
        omega
  · unfold rBoundF
    exact foldl_max_le _ _ _ _ (hr 0) (fun m _ b hb => by
      unfold rstep
      have := hr m; have := hr (most - m); have := hr (m + 1); have := hr (most - m + 1)
      omega)
end
end Go.Proofs.Ytnoocdobldchoaa
