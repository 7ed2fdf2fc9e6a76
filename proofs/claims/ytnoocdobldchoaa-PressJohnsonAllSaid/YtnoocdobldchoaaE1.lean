/- The plain law of the reference's two assignments to presses. -/
import Derived.Test.YtnoocdobldchoaaD3
import Derived.Test.YtnoocdobldchoaaA5
namespace Go.Proofs.Ytnoocdobldchoaa
open Go.RowKit Go.Proofs.YtnoocdobldchoaaW.PrintWords Go.Proofs.YtnoocdobldchoaaW.PrintMore Go.Proofs.YtnoocdobldchoaaW.PrintLast

/-! ### The plain law of the reference's two assignments to presses. -/
/-- a is longer than b, or as long and earlier. -/
def bet (ts : List Int) (a b : Int) : Prop := rd ts b < rd ts a ∨ (rd ts a = rd ts b ∧ a < b)
theorem bet.trans {ts : List Int} {a b c : Int} (h : bet ts a b) (k : bet ts b c) : bet ts a c := by unfold bet at *; omega
theorem bet.asymm {ts : List Int} {a b : Int} (h : bet ts a b) (k : bet ts b a) : False := by unfold bet at *; omega
theorem cmpD_neg (ts : List Int) (x y : Int) : cmpD ts x y < 0 ↔ rd ts y < rd ts x := by
  unfold cmpD cmpI
  split
  · omega
  · split <;> omega
theorem insR_pw (ts : List Int) (x : Int) : ∀ l : List Int, l.Pairwise (fun b a => bet ts a b) → (∀ y ∈ l, y < x) → (insR (cmpD ts) x l).Pairwise (fun b a => bet ts a b) := by
  intro l
  induction l with
  | nil => intro _ _; unfold insR; exact List.pairwise_singleton _ _
  | cons y l ih =>
    intro h hx
    obtain ⟨h1, h2⟩ := List.pairwise_cons.1 h
    have hy := hx y List.mem_cons_self
    unfold insR
    split
    · rename_i hc
      rw [cmpD_neg] at hc
      refine List.pairwise_cons.2 ⟨fun a ha => ?_, ih h2 (fun z hz => hx z (List.mem_cons_of_mem _ hz))⟩
      rcases (insR_mem _ _ _ _).1 ha with rfl | ha
      · exact .inl hc
      · exact h1 a ha
    · rename_i hc
      rw [cmpD_neg] at hc
      have hyx : bet ts y x := by unfold bet; omega
      refine List.pairwise_cons.2 ⟨fun a ha => ?_, h⟩
      rcases List.mem_cons.1 ha with rfl | ha
      · exact hyx
      · exact (h1 a ha).trans hyx
theorem srtR_pw (ts : List Int) : ∀ (l acc : List Int), acc.Pairwise (fun b a => bet ts a b) → (∀ y ∈ acc, ∀ x ∈ l, y < x) → l.Pairwise (· < ·) → (l.foldl (fun acc x => insR (cmpD ts) x acc) acc).Pairwise (fun b a => bet ts a b) := by
  intro l
  induction l with
  | nil => intro acc h _ _; exact h
  | cons x l ih =>
    intro acc h hlt hl
    obtain ⟨h1, h2⟩ := List.pairwise_cons.1 hl
    rw [List.foldl_cons]
    refine ih _ (insR_pw ts x acc h (fun y hy => hlt y hy x List.mem_cons_self)) (fun y hy z hz => ?_) h2
    rcases (insR_mem _ _ _ _).1 hy with rfl | hy
    · exact h1 z hz
    · exact hlt y hy z (List.mem_cons_of_mem _ hz)
theorem longOrd_pw (ts : List Int) : (longOrd ts).Pairwise (bet ts) := by
  unfold longOrd srt srtR
  rw [List.pairwise_reverse]
  refine srtR_pw ts _ [] List.Pairwise.nil (fun y hy => by simp at hy) ?_
  unfold upto
  exact List.Pairwise.map _ (fun a b (h : a < b) => by show (a : Int) < (b : Int); omega) List.pairwise_lt_range

/-- The longest work that is not given yet, the first such. -/
def pickF (ts : List Int) (G : List Bool) (k : Nat) : Int := (List.range k).foldl (fun i k => if G.getD k false = false ∧ (i < 0 ∨ rd ts i < rd ts k) then (k : Int) else i) (-1)
theorem pickF_succ (ts : List Int) (G : List Bool) (k : Nat) : pickF ts G (k + 1) = if G.getD k false = false ∧ (pickF ts G k < 0 ∨ rd ts (pickF ts G k) < rd ts k) then (k : Int) else pickF ts G k := by
  unfold pickF
  rw [List.range_succ, List.foldl_append]
  rfl
theorem pickF_spec (ts : List Int) (G : List Bool) : ∀ k, (pickF ts G k = -1 ∧ ∀ j, j < k → G.getD j false = true) ∨
    ∃ p : Nat, pickF ts G k = p ∧ p < k ∧ G.getD p false = false ∧ ∀ j : Nat, j < k → j ≠ p → G.getD j false = false → bet ts p j := by
  intro k
  induction k with
  | zero => exact .inl ⟨rfl, fun j h => by omega⟩
  | succ k ih =>
    rw [pickF_succ]
    cases hg : G.getD k false with
    | true =>
      rw [if_neg (by simp)]
      rcases ih with ⟨h1, h2⟩ | ⟨p, h1, h2, h3, h4⟩
      · refine .inl ⟨h1, fun j hj => ?_⟩
        rcases (show j < k ∨ j = k by omega) with h | rfl
        · exact h2 j h
        · exact hg
      · refine .inr ⟨p, h1, by omega, h3, fun j hj hne hj2 => ?_⟩
        rcases (show j < k ∨ j = k by omega) with h | rfl
        · exact h4 j h hne hj2
        · rw [hg] at hj2; cases hj2
    | false =>
      rcases ih with ⟨h1, h2⟩ | ⟨p, h1, h2, h3, h4⟩
      · rw [h1, if_pos ⟨rfl, .inl (by omega)⟩]
        refine .inr ⟨k, rfl, by omega, hg, fun j hj hne hj2 => ?_⟩
        rw [h2 j (by omega)] at hj2; cases hj2
      · rw [h1]
        by_cases hc : rd ts p < rd ts k
        · rw [if_pos ⟨rfl, .inr hc⟩]
          refine .inr ⟨k, rfl, by omega, hg, fun j hj hne hj2 => ?_⟩
          have hk : bet ts k p := .inl hc
          by_cases e : j = p
          · subst e; exact hk
          · exact hk.trans (h4 j (by omega) e hj2)
        · rw [if_neg (by omega)]
          refine .inr ⟨p, rfl, by omega, h3, fun j hj hne hj2 => ?_⟩
          rcases (show j < k ∨ j = k by omega) with h | rfl
          · exact h4 j h hne hj2
          · unfold bet; omega
/-- Which works are given behind j rounds. -/
def GOK (ts : List Int) (j : Nat) (G : List Bool) : Prop := G.length = ts.length ∧ ∀ x : Nat, x < ts.length → (G.getD x false = true ↔ (x : Int) ∈ (longOrd ts).take j)
theorem longOrd_length (ts : List Int) : (longOrd ts).length = ts.length := by unfold longOrd; rw [srt_length, upto_length]
theorem GOK.start (ts : List Int) : GOK ts 0 (List.replicate ts.length false) := by
  refine ⟨by simp, fun x hx => ?_⟩
  rw [List.getD_eq_getElem?_getD, List.getElem?_replicate, if_pos hx]
  simp
theorem GOK.pick {ts : List Int} {j : Nat} {G : List Bool} (h : GOK ts j G) (hj : j < ts.length) : pickF ts G ts.length = rd (longOrd ts) j := by
  have hj' : j < (longOrd ts).length := by rw [longOrd_length]; exact hj
  have ho : rd (longOrd ts) j = (longOrd ts)[j] := by unfold rd; simp [List.getD_eq_getElem?_getD, List.getElem?_eq_getElem hj']
  rw [ho]
  have hm := (longOrd_mem ts _).1 (List.getElem_mem hj')
  have hsplit : longOrd ts = (longOrd ts).take j ++ (longOrd ts)[j] :: (longOrd ts).drop (j + 1) := by
    rw [← List.drop_eq_getElem_cons hj', List.take_append_drop]
  have hnd := longOrd_nodup ts
  have hpw := longOrd_pw ts
  generalize (longOrd ts)[j] = o at *
  obtain ⟨x, rfl⟩ : ∃ x : Nat, o = x := ⟨o.toNat, by omega⟩
  have hxl : x < ts.length := by omega
  have hnx : (x : Int) ∉ (longOrd ts).take j := by
    rw [hsplit] at hnd
    have := (List.nodup_append.1 hnd).2.2
    exact fun hx => this _ hx _ List.mem_cons_self rfl
  have hxg : G.getD x false = false := by
    cases hg : G.getD x false with
    | false => rfl
    | true => exact absurd ((h.2 x hxl).1 hg) hnx
  have hb : ∀ y ∈ (longOrd ts).drop (j + 1), bet ts x y := by
    rw [hsplit] at hpw
    have := (List.pairwise_append.1 hpw).2.1
    exact (List.pairwise_cons.1 this).1
  rcases pickF_spec ts G ts.length with ⟨_, h2⟩ | ⟨p, h1, h2, h3, h4⟩
  · rw [h2 x hxl] at hxg; cases hxg
  · rw [h1]
    by_cases e : p = x
    · rw [e]
    · exfalso
      have hpn : (p : Int) ∉ (longOrd ts).take j := fun hp => by
        have := (h.2 p h2).2 hp
        rw [h3] at this; cases this
      have hpm : (p : Int) ∈ longOrd ts := (longOrd_mem ts _).2 ⟨by omega, by omega⟩
      rw [hsplit] at hpm
      rcases List.mem_append.1 hpm with hp | hp
      · exact hpn hp
      · rcases List.mem_cons.1 hp with hp | hp
        · omega
        · exact (hb _ hp).asymm (h4 x hxl (fun e2 => e e2.symm) hxg)
theorem GOK.step {ts : List Int} {j : Nat} {G : List Bool} (h : GOK ts j G) (hj : j < ts.length) : GOK ts (j + 1) (G.set (rd (longOrd ts) j).toNat true) := by
  have hj' : j < (longOrd ts).length := by rw [longOrd_length]; exact hj
  have ho : rd (longOrd ts) j = (longOrd ts)[j] := by unfold rd; simp [List.getD_eq_getElem?_getD, List.getElem?_eq_getElem hj']
  have hm := (longOrd_mem ts _).1 (List.getElem_mem hj')
  have ht : (longOrd ts).take (j + 1) = (longOrd ts).take j ++ [(longOrd ts)[j]] := List.take_succ_eq_append_getElem hj'
  rw [ho]
  refine ⟨by rw [List.length_set]; exact h.1, fun x hx => ?_⟩
  rw [ht, List.mem_append, List.mem_singleton]
  generalize (longOrd ts)[j] = o at *
  rw [List.getD_eq_getElem?_getD, List.getElem?_set]
  by_cases e : o.toNat = x
  · rw [if_pos e, if_pos (by rw [h.1]; omega)]
    constructor
    · intro _; exact .inr (by omega)
    · intro _; rfl
  · rw [if_neg e, ← List.getD_eq_getElem?_getD, h.2 x hx]
    constructor
    · exact .inl
    · rintro (hh | hh)
      · exact hh
      · omega
/-- One press's load more: the greatest load. -/
theorem maxF_upd (ld : Nat → Int) {P p : Nat} (t : Int) (hp : p < P) (ht : 0 ≤ t) : maxF (lls (upd ld p t) P) = max (maxF (lls ld P)) (ld p + t) := by
  have hup : ∀ k, ld k ≤ upd ld p t k := fun k => by
    unfold upd
    split
    · rename_i e; subst e; omega
    · omega
  have hge : ∀ (l : Nat → Int) k, k < P → l k ≤ maxF (lls l P) := fun l k hk => by
    have a := maxF_ge (lls l P) k (by rw [lls_length]; exact hk)
    rwa [lls_get _ hk] at a
  have hle : ∀ (l : Nat → Int) (c : Int), (∀ k, k < P → l k ≤ c) → maxF (lls l P) ≤ c := fun l c h => by
    refine maxF_le _ _ (by rw [lls_length]; omega) (fun x hx => ?_)
    unfold lls at hx
    obtain ⟨k, hk, rfl⟩ := List.mem_map.1 hx
    exact h k (by simpa using hk)
  refine Int.le_antisymm ?_ ?_
  · refine hle _ _ (fun k hk => ?_)
    have a := hge ld k hk
    unfold upd
    split <;> omega
  · have a := hle ld (maxF (lls (upd ld p t) P)) (fun k hk => Int.le_trans (hup k) (hge _ k hk))
    have b := hge (upd ld p t) p hp
    have c : upd ld p t p = ld p + t := by unfold upd; rw [if_pos rfl]
    omega
theorem maxF_zero {P : Nat} (hP : 1 ≤ P) : maxF (lls (fun _ => 0) P) = 0 := by
  rw [lls_zero]
  refine Int.le_antisymm (maxF_le _ _ (by simp; omega) (fun x hx => by rw [List.eq_of_mem_replicate hx]; exact Int.le_refl _)) ?_
  have a := maxF_ge (List.replicate P 0) 0 (by simp; omega)
  simpa [List.getD_eq_getElem?_getD, show 0 < P by omega] using a
theorem minK_one (ld : Nat → Int) : minK ld 1 = 0 := by rw [minK_succ]; simp [minK]

/-- The bound on the number of things is none where it is their number. -/
theorem free_each {P : Nat} {F each each' : Int} : ∀ (ts : List Int) (f : Nat → Int × Int) (l : List Int), (∀ b, (f b).2 + ts.length ≤ each') → Free F each P ts f l → Free F each' P ts f l := by
  intro ts
  induction ts with
  | nil => intro f l _ h; exact h
  | cons t ts ih =>
    intro f l hc h
    obtain ⟨b, l', rfl, h1, h2, h3, h4⟩ := h
    have hb := hc b
    simp only [List.length_cons, Int.natCast_add] at hb
    refine ⟨b, l', rfl, h1, h2, by omega, ih _ _ (fun k => ?_) h4⟩
    have := hc k
    simp only [List.length_cons, Int.natCast_add] at this
    unfold put
    split
    · rename_i e; subst e; dsimp only; omega
    · omega
theorem assign_sh {ts : List Int} (hms : MOK ts) (P : Nat) (F : Int) (hF : 0 ≤ F) :
    (∀ l, assignF ts P F ts.length = some l → Free F 12 P ts zf l ∧ ∀ l', Free F 12 P ts zf l' → LexLe l l') ∧ (assignF ts P F ts.length = none ↔ ¬ ∃ l, Free F 12 P ts zf l) := by
  cases ts with
  | nil =>
    have e : assignF [] P F (([] : List Int).length : Int) = some [] := by simp [assignF, dfs]
    rw [e]
    refine ⟨fun l h => ?_, ?_⟩
    · cases h; exact ⟨rfl, fun l' _ => trivial⟩
    · constructor
      · intro h; cases h
      · intro h; exact absurd ⟨[], rfl⟩ h
  | cons t ts =>
    have hl := hms.1
    have d := assignF_spec (ms := t :: ts) (most := F) (each := ((t :: ts).length : Int)) (by simp only [List.length_cons]; omega) hF P
    have hto : ∀ l, Free F ((t :: ts).length : Int) P (t :: ts) zf l → Free F 12 P (t :: ts) zf l := fun l h => free_each _ _ _ (fun b => by simp only [zf]; omega) h
    have fro : ∀ l, Free F 12 P (t :: ts) zf l → Free F ((t :: ts).length : Int) P (t :: ts) zf l := fun l h => free_each _ _ _ (fun b => by simp only [zf]; omega) h
    refine ⟨fun l h => ⟨hto l (d.1 l h).1.free, fun l' h' => (d.1 l h).2 l' (fro l' h')⟩, ?_⟩
    rw [d.2]
    constructor
    · rintro h ⟨l, hf⟩; exact h ⟨l, fro l hf⟩
    · rintro h ⟨l, hf⟩; exact h ⟨l, hto l hf⟩
theorem free_ge {P : Nat} {F each : Int} : ∀ (ts : List Int) (f : Nat → Int × Int) (l : List Int), (∀ b, 0 ≤ (f b).1) → (∀ t ∈ ts, 0 ≤ t) → Free F each P ts f l → ∀ t ∈ ts, t ≤ F := by
  intro ts
  induction ts with
  | nil => intro f l _ _ _ t ht; simp at ht
  | cons t ts ih =>
    intro f l h0 hp h x hx
    obtain ⟨b, l', rfl, h1, h2, h3, h4⟩ := h
    have hb := h0 b
    have ht := hp t List.mem_cons_self
    rcases List.mem_cons.1 hx with rfl | hx
    · omega
    · refine ih _ _ (fun k => ?_) (fun z hz => hp z (List.mem_cons_of_mem _ hz)) h4 x hx
      have := h0 k
      unfold put
      split
      · dsimp only; omega
      · omega
theorem free_zero {P : Nat} {F each : Int} (hP : 1 ≤ P) : ∀ (ts : List Int) (f : Nat → Int × Int), (∀ t ∈ ts, 0 ≤ t) → (f 0).1 + ts.sum ≤ F → (f 0).2 + ts.length ≤ each → Free F each P ts f (List.replicate ts.length 0) := by
  intro ts
  induction ts with
  | nil => intro f _ _ _; rfl
  | cons t ts ih =>
    intro f hp hs hc
    have ht := hp t List.mem_cons_self
    have hnn : ∀ l : List Int, (∀ t ∈ l, 0 ≤ t) → 0 ≤ l.sum := by
      intro l
      induction l with
      | nil => intro _; simp
      | cons a l ih => intro h; rw [List.sum_cons]; have := ih (fun z hz => h z (List.mem_cons_of_mem _ hz)); have := h a List.mem_cons_self; omega
    have h0 := hnn ts (fun z hz => hp z (List.mem_cons_of_mem _ hz))
    rw [List.sum_cons] at hs
    simp only [List.length_cons, Int.natCast_add] at hc
    refine ⟨0, List.replicate ts.length 0, rfl, by omega, by omega, by omega, ih _ (fun z hz => hp z (List.mem_cons_of_mem _ hz)) ?_ ?_⟩
    · unfold put; rw [if_pos rfl]; dsimp only; omega
    · unfold put; rw [if_pos rfl]; dsimp only; omega
/-- What halving keeps. -/
def ShLo (ts : List Int) (P : Nat) (lo hi : Int) : Prop :=
  0 ≤ lo ∧ lo ≤ hi ∧ hi ≤ 12884901888 ∧ (∀ F', 0 ≤ F' → F' < lo → ∀ l, ¬ Free F' 12 P ts zf l) ∧ ∃ l, Free hi 12 P ts zf l
def topF (ts : List Int) : Int := ts.foldl max 0
theorem foldlm_le (c : Int) : ∀ (l : List Int) (m : Int), m ≤ c → (∀ x ∈ l, x ≤ c) → l.foldl max m ≤ c := by
  intro l
  induction l with
  | nil => intro m hm _; exact hm
  | cons b l ih =>
    intro m hm hl
    rw [List.foldl_cons]
    have := hl b List.mem_cons_self
    exact ih _ (by omega) (fun x hx => hl x (List.mem_cons_of_mem _ hx))
theorem foldlm_ge : ∀ (l : List Int) (m : Int), m ≤ l.foldl max m := by
  intro l
  induction l with
  | nil => intro m; exact Int.le_refl _
  | cons b l ih => intro m; rw [List.foldl_cons]; have := ih (max m b); omega
theorem sum_bd : ∀ l : List Int, (∀ t ∈ l, 0 ≤ t ∧ t ≤ 1073741824) → 0 ≤ l.sum ∧ l.sum ≤ l.length * 1073741824 ∧ ∀ t ∈ l, t ≤ l.sum := by
  intro l
  induction l with
  | nil => intro _; exact ⟨by simp, by simp, fun t ht => by simp at ht⟩
  | cons a l ih =>
    intro h
    have h1 := ih (fun z hz => h z (List.mem_cons_of_mem _ hz))
    have h2 := h a List.mem_cons_self
    rw [List.sum_cons, List.length_cons]
    refine ⟨by omega, by omega, fun t ht => ?_⟩
    rcases List.mem_cons.1 ht with rfl | ht
    · omega
    · have := h1.2.2 t ht; omega
theorem MOK.bds {ts : List Int} (h : MOK ts) : ∀ t ∈ ts, 0 ≤ t ∧ t ≤ 1073741824 := fun t ht => by
  obtain ⟨i, hi, rfl⟩ := mem_getD ht
  have := h.2 i hi
  omega
theorem ShLo.start {ts : List Int} {P : Nat} (hms : MOK ts) (hP : 1 ≤ P) : ShLo ts P (topF ts) ts.sum := by
  have hb := hms.bds
  obtain ⟨s0, s1, s2⟩ := sum_bd ts hb
  have hl := hms.1
  refine ⟨foldlm_ge ts 0, foldlm_le _ _ _ s0 s2, by omega, fun F' h0 hF l hf => ?_, _, free_zero hP ts zf (fun t ht => (hb t ht).1) (by simp [zf]) (by simp [zf]; omega)⟩
  have := foldlm_le F' ts 0 h0 (free_ge ts zf l (fun _ => by simp [zf]) (fun t ht => (hb t ht).1) hf)
  unfold topF at hF
  omega
theorem ShLo.low {ts : List Int} {P : Nat} {lo hi mid : Int} (h : ShLo ts P lo hi) (h1 : lo ≤ mid) (h2 : mid < hi) (hn : ¬ ∃ l, Free mid 12 P ts zf l) : ShLo ts P (mid + 1) hi := by
  refine ⟨by have := h.1; omega, by omega, h.2.2.1, fun F' h0 hF l hf => hn ⟨l, Free.more (by omega) (by omega) (by omega) _ _ _ hf⟩, h.2.2.2.2⟩
theorem ShLo.high {ts : List Int} {P : Nat} {lo hi mid : Int} (h : ShLo ts P lo hi) (h1 : lo ≤ mid) (h2 : mid < hi) (hn : ∃ l, Free mid 12 P ts zf l) : ShLo ts P lo mid :=
  ⟨h.1, h1, by have := h.2.2.1; omega, h.2.2.2.1, hn⟩
theorem ShLo.last {ts : List Int} {P : Nat} {lo : Int} {l : List Int} (hms : MOK ts) (h : ShLo ts P lo lo) (ha : assignF ts P lo ts.length = some l) : ShIs ts P lo l := by
  obtain ⟨a, b⟩ := (assign_sh hms P lo h.1).1 l ha
  exact ⟨h.1, a, fun F' l' h0 hF => h.2.2.2.1 F' h0 hF l', b⟩
theorem ShLo.some {ts : List Int} {P : Nat} {lo : Int} (hms : MOK ts) (h : ShLo ts P lo lo) : assignF ts P lo ts.length ≠ none := fun hn =>
  (assign_sh hms P lo h.1).2.1 hn h.2.2.2.2

/-! ### What Longest and the reference's Share answer. -/
def LgPost (ts : List Int) (p : Int) (w : World) (e : Ending) (w' : World) : Prop :=
  Below w.heap.size w w' ∧
  if worksE ts p = 0 then ∃ gg : Nat, e = .returned (.tuple #[.slice (some ⟨gg, 0, none⟩) ts.length ts.length, .int .i64 (mostF ts p.toNat), .int .i64 0]) ∧ (Kd.int .i64).C w' (some ⟨gg, 0, none⟩) ts.length (lptF ts p.toNat (longOrd ts)).2
  else e = .returned (.tuple #[.slice none 0 0, .int .i64 0, .int .i64 (worksE ts p)])
set_option maxHeartbeats 4000000 in
theorem plongest_any (w : World) (A : Option Addr) (c : Nat) (ts : List Int) (p : Int) (h : (Kd.int .i64).C w A ts.length ts) :
    Calls Try.prog 25 #[.slice A ts.length c, .int .i64 p] w (LgPost ts p w) := by
  have hwk := works_any w A c ts p h
  have HR := Aside0.mk h; clear h
  obtain ⟨e0, he0⟩ : ∃ z, z = worksE ts p := ⟨_, rfl⟩
  rw [← he0] at hwk
  have HWK := Aside0.mk hwk; clear hwk
  have HE := Aside0.mk he0; clear he0
  by_cases hz : e0 = 0
  · obtain ⟨hms, hp1, hp4⟩ := MOK.of_W (HE.out.symm.trans hz)
    subst hz
    obtain ⟨P, rfl⟩ : ∃ P : Nat, p = P := ⟨p.toNat, by omega⟩
    have hml := hms.1
    have hlp := longest_any w A c ts P HR.out hms (by omega) (by omega)
    obtain ⟨mo, hmo⟩ : ∃ z, z = mostF ts P := ⟨_, rfl⟩
    have hlp' : Calls Try.prog 47 #[.slice A ts.length c, .int .i64 P] w fun e w' => ∃ gg : Nat, e = .returned (.tuple #[.slice (some ⟨gg, 0, none⟩) ts.length ts.length, .int .i64 mo]) ∧ Below w.heap.size w w' ∧ (Kd.int .i64).C w' (some ⟨gg, 0, none⟩) ts.length (lptF ts P (longOrd ts)).2 :=
      hlp.mono fun e w' ⟨a, gg, b, d, hl⟩ => ⟨gg, by rw [b, hmo]; rfl, a, by
        have := d.ints_C (by rw [hl]; omega)
        rwa [hl] at this⟩
    have HLP := Aside0.mk hlp'
    have HMO := Aside0.mk hmo
    clear hlp hlp' hmo hms
    go_enter Try.func25, Try.ntmps25
    go_wp2_with (first | ((with_reducible refine HWK.out.mono ?_); rintro e5 w5 ⟨rfl, rfl⟩) | ((with_reducible refine HLP.out.mono ?_); rintro e6 w6 ⟨gg, rfl, hb6, hC6⟩; have H6 := Aside0.mk (And.intro hb6 hC6); clear hb6 hC6))
    refine bodyPost_ret (v := .tuple #[.slice (some ⟨gg, 0, none⟩) ts.length ts.length, .int .i64 mo, .int .i64 0]) (by simp [results, Try.results25, go_sem]) rfl ?_
    refine ⟨H6.out.1, ?_⟩
    rw [if_pos HE.out.symm]
    exact ⟨gg, by rw [HMO.out]; rfl, H6.out.2⟩
  · have hzb : (e0 != 0) = true := by simp [hz]
    go_enter Try.func25, Try.ntmps25
    go_wp2_with ((with_reducible refine HWK.out.mono ?_); rintro e5 w5 ⟨rfl, rfl⟩)
    refine bodyPost_ret (v := .tuple #[.slice none 0 0, .int .i64 0, .int .i64 e0]) (by simp [results, Try.results25, go_sem]) rfl ?_
    exact ⟨Below.refl _ _, by rw [← HE.out, if_neg hz]⟩

set_option maxRecDepth 100000 in
set_option maxHeartbeats 8000000 in
theorem rshare_any (w : World) (A : Option Addr) (c : Nat) (ts : List Int) (p : Int) (h : (Kd.int .i64).C w A ts.length ts) :
    Calls Try.prog 24 #[.slice A ts.length c, .int .i64 p] w (ShPost ts p w) := by
  have hl0 := Kd.C_max h
  have hwk := rworks_any w A c ts p h
  have HR := Aside0.mk h; clear h
  obtain ⟨e0, he0⟩ : ∃ z, z = worksE ts p := ⟨_, rfl⟩
  rw [← he0] at hwk
  have HWK := Aside0.mk hwk; clear hwk
  have HE := Aside0.mk he0; clear he0
  by_cases hz : e0 = 0
  · obtain ⟨hms, hp1, hp4⟩ := MOK.of_W (HE.out.symm.trans hz)
    subst hz
    obtain ⟨P, rfl⟩ : ∃ P : Nat, p = P := ⟨p.toNat, by omega⟩
    have hml := hms.1
    have hst := ShLo.start (P := P) hms (by omega)
    have HST := Aside0.mk hst; clear hst
    have HMS := Aside0.mk hms; clear hms
    go_enter Try.func24, Try.ntmps24
    go_wp2_with ((with_reducible refine HWK.out.mono ?_); rintro e5 w5 ⟨rfl, rfl⟩)
    clear HWK
    go_loop [8, 9, 10] (fun v8 v9 v10 => ∃ lo hi i : Int, v8 = .int .i64 lo ∧ v9 = .int .i64 hi ∧ v10 = .int .i64 i ∧ 0 ≤ i ∧ i ≤ ts.length ∧ 0 ≤ hi ∧ hi ≤ i * 1073741824 ∧ Aside0 ((ts.drop i.toNat).foldl max lo = topF ts) ∧ Aside0 (hi + (ts.drop i.toNat).sum = ts.sum)) (fun _ _ v => ts.length - (intOf v).toNat)
    case atStart => exact ⟨0, 0, 0, rfl, rfl, rfl, by omega, by omega, by omega, by omega, ⟨rfl⟩, ⟨by simp⟩⟩
    case round =>
      obtain ⟨lo, hi, i, rfl, rfl, rfl, h0, h1, hh0, hh1, HT, HS⟩ := hrel
      by_cases hlt : i < ts.length
      · obtain ⟨ad, e1, g1⟩ := Kd.at_int HR.out i h0 hlt
        subst e1
        have hm := HMS.out.at_ i h0 hlt
        have ht := HT.out
        have hs := HS.out
        rw [drop_rd ts i h0 hlt, List.foldl_cons] at ht
        rw [drop_rd ts i h0 hlt, List.sum_cons] at hs
        obtain ⟨x, hx⟩ : ∃ z, z = rd ts i := ⟨_, rfl⟩
        rw [← hx] at g1 hm ht hs
        have HT2 := Aside0.mk ht
        have HS2 := Aside0.mk hs
        clear hx ht hs HT HS
        obtain ⟨hm0, hm1⟩ := hm
        by_cases hmx : lo < x
        · have em : max lo x = x := by omega
          have HT3 := HT2.out
          rw [em] at HT3
          have HT4 := Aside0.mk HT3
          clear HT3 em HT2
          go_wp2_with fail
          go_round
          case rel => exact ⟨x, hi + x, i + 1, by go_num, by go_num, by go_num, by omega, by omega, by omega, by omega, HT4, ⟨by have := HS2.out; omega⟩⟩
          case measure => show ts.length - (i + 1).toNat < ts.length - i.toNat; omega
        · have em : max lo x = lo := by omega
          have HT3 := HT2.out
          rw [em] at HT3
          have HT4 := Aside0.mk HT3
          clear HT3 em HT2
          go_wp2_with fail
          go_round
          case rel => exact ⟨lo, hi + x, i + 1, by go_num, by go_num, by go_num, by omega, by omega, by omega, by omega, HT4, ⟨by have := HS2.out; omega⟩⟩
          case measure => show ts.length - (i + 1).toNat < ts.length - i.toNat; omega
      · have hlo : lo = topF ts := by
          have a := HT.out
          rw [show i.toNat = ts.length by omega, List.drop_length] at a
          exact a
        have hhi : hi = ts.sum := by
          have a := HS.out
          rw [show i.toNat = ts.length by omega, List.drop_length] at a
          simpa using a
        have hs := HST.out
        rw [← hlo, ← hhi] at hs
        have HL := Aside0.mk hs
        clear hs hlo hhi HT HS
        go_wp2_with fail
        clear hlt h0 h1 hh0 hh1
        go_loopw [8, 9] (fun v8 v9 wr => ∃ lo hi : Int, v8 = .int .i64 lo ∧ v9 = .int .i64 hi ∧ Aside0 (ShLo ts P lo hi) ∧ Aside0 (Below w.heap.size w wr)) (fun v8 v9 _ => (intOf v9 - intOf v8).toNat)
        case atStart => exact ⟨_, _, rfl, rfl, HL, ⟨Below.refl _ _⟩⟩
        case round =>
          obtain ⟨lo2, hi2, rfl, rfl, HL2, HB⟩ := hrel
          have hb := HL2.out
          obtain ⟨hlo0, hlh, hhm, _, _⟩ := hb
          by_cases hlt : lo2 < hi2
          · have hC := Kd.C_below HR.out HB.out
            have hm0 : 0 ≤ (lo2 + hi2) / 2 := by omega
            have hm1 : (lo2 + hi2) / 2 < hi2 := by omega
            have hm2 : lo2 ≤ (lo2 + hi2) / 2 := by omega
            obtain ⟨mid, hmid⟩ : ∃ z, z = (lo2 + hi2) / 2 := ⟨_, rfl⟩
            rw [← hmid] at hm0 hm1 hm2
            have hcall := Aside0.mk (assign_any wr A c ts P mid ts.length hC HMS.out (by omega) hm0 (by omega) ⟨by omega, by omega⟩)
            have HMID := Aside0.mk hmid
            clear hC hmid
            go_upto_region 12 with fail
            rw [← HMID.out]
            go_cut [12, 13] from 47 to 55 (fun a b w5 => ∃ g ok, a = .slice (some ⟨g, 0, none⟩) ts.length ts.length ∧ b = .bool ok ∧ Aside0 (Below wr.heap.size wr w5 ∧ match assignF ts P mid ts.length with | some l => ok = true ∧ l.length = ts.length ∧ (Kd.int .i64).C w5 (some ⟨g, 0, none⟩) ts.length l | none => ok = false))
            case first =>
              go_wp2_with ((with_reducible refine hcall.out.mono ?_); rintro e5 w5 ⟨hb5, g5, ok5, rfl, hp5⟩; have HP5 := Aside0.mk (And.intro hb5 hp5); clear hb5 hp5)
              go_meet
              case rel => exact ⟨g5, ok5, rfl, rfl, HP5⟩
            case rest =>
            obtain ⟨g5, ok5, rfl, rfl, ⟨hb5, hp5⟩⟩ := hcut
            have HB6 := Aside0.mk (HB.out.trans (hb5.mono HB.out.size))
            have ha := assign_sh HMS.out P mid hm0
            clear hb5 hcall HB
            cases hd5 : assignF ts P mid ts.length with
            | some l5 =>
              simp only [hd5] at hp5
              obtain ⟨rfl, _, _⟩ := hp5
              have HL3 := Aside0.mk (HL2.out.high hm2 hm1 ⟨l5, (ha.1 l5 hd5).1⟩)
              clear ha hd5 HL2
              go_wp2_with fail
              go_roundw
              case rel => exact ⟨lo2, mid, rfl, rfl, HL3, HB6⟩
              case measure => simp only [intOf]; omega
            | none =>
              simp only [hd5] at hp5
              subst hp5
              have HL3 := Aside0.mk (HL2.out.low hm2 hm1 (ha.2.1 hd5))
              clear ha hd5 HL2
              go_wp2_with fail
              go_roundw
              case rel => exact ⟨mid + 1, hi2, by go_num, rfl, HL3, HB6⟩
              case measure => simp only [intOf]; omega
          · obtain rfl : lo2 = hi2 := by omega
            have hC := Kd.C_below HR.out HB.out
            have hcall := assign_any wr A c ts P lo2 ts.length hC HMS.out (by omega) hlo0 (by omega) ⟨by omega, by omega⟩
            have hsome := HL2.out.some HMS.out
            have hlast := fun l => HL2.out.last HMS.out (l := l)
            obtain ⟨l, hl⟩ : ∃ l, assignF ts P lo2 ts.length = some l := by
              cases hd : assignF ts P lo2 ts.length with
              | some l => exact ⟨l, rfl⟩
              | none => exact absurd hd hsome
            have HI := Aside0.mk (hlast l hl)
            have hcall2 : Calls Try.prog 44 #[.slice A ts.length c, .int .i64 P, .int .i64 lo2, .int .i64 ts.length] wr fun e w' => ∃ g : Nat, e = .returned (.tuple #[.slice (some ⟨g, 0, none⟩) ts.length ts.length, .bool true]) ∧ Below wr.heap.size wr w' ∧ (Kd.int .i64).C w' (some ⟨g, 0, none⟩) ts.length l := by
              refine hcall.mono ?_
              rintro e w' ⟨hb, g, ok, rfl, hm⟩
              simp only [hl] at hm
              obtain ⟨rfl, _, hm2⟩ := hm
              exact ⟨g, rfl, hb, hm2⟩
            have HC2 := Aside0.mk hcall2
            clear hcall hcall2 hsome hlast hl hC HL2
            go_wp2_with ((with_reducible refine HC2.out.mono ?_); rintro e5 w5 ⟨g5, rfl, hb5, hC5⟩; have H5 := Aside0.mk (And.intro (HB.out.trans (hb5.mono HB.out.size)) hC5); clear hb5 hC5)
            refine bodyPost_ret (v := .tuple #[.slice (some ⟨g5, 0, none⟩) ts.length ts.length, .int .i64 lo2, .int .i64 0]) (by simp [results, Try.results24, go_sem]) rfl ?_
            refine ⟨H5.out.1, ?_⟩
            rw [if_pos HE.out.symm]
            exact ⟨_, _, lo2, l, rfl, H5.out.2, HI.out⟩
  · have hzb : (e0 != 0) = true := by simp [hz]
    go_enter Try.func24, Try.ntmps24
    go_wp2_with ((with_reducible refine HWK.out.mono ?_); rintro e5 w5 ⟨rfl, rfl⟩)
    refine bodyPost_ret (v := .tuple #[.slice none 0 0, .int .i64 0, .int .i64 e0]) (by simp [results, Try.results24, go_sem]) rfl ?_
    exact ⟨Below.refl _ _, by rw [← HE.out, if_neg hz]⟩

end Go.Proofs.Ytnoocdobldchoaa
