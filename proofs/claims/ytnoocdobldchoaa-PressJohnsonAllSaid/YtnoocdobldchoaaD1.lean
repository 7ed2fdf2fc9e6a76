/- What both checks of works answer. -/
import Derived.Test.YtnoocdobldchoaaB2
import Derived.Test.YtnoocdobldchoaaA5
import Derived.Shelf.Slices.Clone
import Derived.Laws.EntriesVeiled
namespace Go.Proofs.Ytnoocdobldchoaa
open Go.RowKit Go.Proofs.YtnoocdobldchoaaW.PrintWords Go.Proofs.YtnoocdobldchoaaW.PrintMore Go.Proofs.YtnoocdobldchoaaW.PrintLast

/-! ### What both checks of works answer. -/
def badW (t : Int) : Bool := decide (t < 1) || decide (1073741824 < t)
def worksE (ts : List Int) (presses : Int) : Int :=
  if 12 < ts.length then 3 else if presses < 1 ∨ 4 < presses then 2 else if ts.any badW = true then 2 else 0
theorem MOK.of_W {ts : List Int} {p : Int} (h : worksE ts p = 0) : MOK ts ∧ 1 ≤ p ∧ p ≤ 4 := by
  unfold worksE at h
  by_cases h1 : 12 < ts.length
  · rw [if_pos h1] at h; omega
  · rw [if_neg h1] at h
    by_cases h2 : p < 1 ∨ 4 < p
    · rw [if_pos h2] at h; omega
    · rw [if_neg h2] at h
      by_cases h3 : ts.any badW = true
      · rw [if_pos h3] at h; omega
      · refine ⟨⟨by omega, fun i hi => ?_⟩, by omega, by omega⟩
        rw [List.getD_eq_getElem?_getD, List.getElem?_eq_getElem hi]
        simp only [Bool.not_eq_true, List.any_eq_false] at h3
        have := h3 ts[i] (List.getElem_mem hi)
        unfold badW at this
        simp only [Bool.or_eq_false_iff, decide_eq_false_iff_not] at this
        rw [Option.getD_some]
        omega

section
variable (w : World) (A : Option Addr) (c : Nat) (ts : List Int) (p : Int)
theorem works_any (h : (Kd.int .i64).C w A ts.length ts) : Calls Try.prog 46 #[.slice A ts.length c, .int .i64 p] w fun e w' => e = .returned (.int .i64 (worksE ts p)) ∧ w = w' := by
  have hl := Kd.C_max h
  have HR := Aside0.mk h; clear h
  by_cases hlen : 12 < ts.length
  · have HE : Aside0 (worksE ts p = 3) := ⟨by unfold worksE; rw [if_pos hlen]⟩
    have hlen' : (12 : Int) < ts.length := by omega
    go_enter Try.func46, Try.ntmps46
    go_wp2_with fail
    go_ret
    exact ⟨ret_int HE.out.symm, rfl⟩
  have hlen' : ¬ (12 : Int) < ts.length := by omega
  by_cases h1 : p < 1
  · have HE : Aside0 (worksE ts p = 2) := ⟨by unfold worksE; rw [if_neg hlen, if_pos (.inl h1)]⟩
    have d1 : decide (p < 1) = true := decide_eq_true h1
    go_enter Try.func46, Try.ntmps46
    go_wp2_with fail
    go_ret
    exact ⟨ret_int HE.out.symm, rfl⟩
  have d1 : decide (p < 1) = false := decide_eq_false h1
  by_cases h2 : 4 < p
  · have HE : Aside0 (worksE ts p = 2) := ⟨by unfold worksE; rw [if_neg hlen, if_pos (.inr h2)]⟩
    have d2 : decide (4 < p) = true := decide_eq_true h2
    go_enter Try.func46, Try.ntmps46
    go_wp2_with fail
    go_ret
    exact ⟨ret_int HE.out.symm, rfl⟩
  have d2 : decide (4 < p) = false := decide_eq_false h2
  have HE : Aside0 (worksE ts p = if ts.any badW = true then 2 else 0) := ⟨by unfold worksE; rw [if_neg hlen, if_neg (by omega)]⟩
  go_enter Try.func46, Try.ntmps46
  go_wp2_with fail
  go_loop [18] (fun v => ∃ i : Int, v = .int .i64 i ∧ 0 ≤ i ∧ i ≤ ts.length ∧ Aside0 ((ts.drop i.toNat).any badW = ts.any badW)) (fun v => ts.length - (intOf v).toNat)
  case atStart => exact ⟨0, rfl, by omega, by omega, ⟨rfl⟩⟩
  case round =>
    obtain ⟨i, rfl, h0, h1, he⟩ := hrel
    by_cases hlt : i < ts.length
    · obtain ⟨ad, e1, g1⟩ := Kd.at_int HR.out i h0 hlt
      subst e1
      have h2 := he.out
      rw [drop_rd ts i h0 hlt, List.any_cons] at h2
      obtain ⟨x, hx⟩ : ∃ z, z = rd ts i := ⟨_, rfl⟩
      rw [← hx] at g1 h2
      unfold badW at h2
      have H2 := Aside0.mk h2; clear h2 hx he
      by_cases ha : x < 1
      · have d3 : decide (x < 1) = true := decide_eq_true ha
        have HE2 : Aside0 (worksE ts p = 2) := ⟨by rw [HE.out, if_pos]; have := H2.out; rw [d3] at this; exact this.symm.trans rfl⟩
        go_wp2_with fail
        go_ret
        exact ⟨ret_int HE2.out.symm, rfl⟩
      have d3 : decide (x < 1) = false := decide_eq_false ha
      by_cases hb : 1073741824 < x
      · have d4 : decide (1073741824 < x) = true := decide_eq_true hb
        have HE2 : Aside0 (worksE ts p = 2) := ⟨by rw [HE.out, if_pos]; have := H2.out; rw [d3, d4] at this; exact this.symm.trans rfl⟩
        go_wp2_with fail
        go_ret
        exact ⟨ret_int HE2.out.symm, rfl⟩
      have d4 : decide (1073741824 < x) = false := decide_eq_false hb
      go_wp2_with fail
      go_round
      case rel =>
        refine ⟨i + 1, by go_num, by omega, by omega, ⟨?_⟩⟩
        have := H2.out
        rw [d3, d4] at this
        exact this
      case measure => show ts.length - (i + 1).toNat < ts.length - i.toNat; omega
    · have HE2 : Aside0 (worksE ts p = 0) := ⟨by
        rw [HE.out, if_neg]
        rw [← he.out, List.drop_eq_nil_of_le (by omega)]
        simp⟩
      go_wp2_with fail
      go_ret
      exact ⟨ret_int HE2.out.symm, rfl⟩
theorem rworks_any (h : (Kd.int .i64).C w A ts.length ts) : Calls Try.prog 50 #[.slice A ts.length c, .int .i64 p] w fun e w' => e = .returned (.int .i64 (worksE ts p)) ∧ w = w' := by
  have hl := Kd.C_max h
  have HR := Aside0.mk h; clear h
  by_cases hlen : 12 < ts.length
  · have HE : Aside0 (worksE ts p = 3) := ⟨by unfold worksE; rw [if_pos hlen]⟩
    have hlen' : (12 : Int) < ts.length := by omega
    go_enter Try.func50, Try.ntmps50
    go_wp2_with fail
    go_ret
    exact ⟨ret_int HE.out.symm, rfl⟩
  have hlen' : ¬ (12 : Int) < ts.length := by omega
  by_cases h1 : p < 1
  · have HE : Aside0 (worksE ts p = 2) := ⟨by unfold worksE; rw [if_neg hlen, if_pos (.inl h1)]⟩
    have d1 : decide (p < 1) = true := decide_eq_true h1
    go_enter Try.func50, Try.ntmps50
    go_wp2_with fail
    go_ret
    exact ⟨ret_int HE.out.symm, rfl⟩
  have d1 : decide (p < 1) = false := decide_eq_false h1
  by_cases h2 : 4 < p
  · have HE : Aside0 (worksE ts p = 2) := ⟨by unfold worksE; rw [if_neg hlen, if_pos (.inr h2)]⟩
    have d2 : decide (4 < p) = true := decide_eq_true h2
    go_enter Try.func50, Try.ntmps50
    go_wp2_with fail
    go_ret
    exact ⟨ret_int HE.out.symm, rfl⟩
  have d2 : decide (4 < p) = false := decide_eq_false h2
  have HE : Aside0 (worksE ts p = if ts.any badW = true then 2 else 0) := ⟨by unfold worksE; rw [if_neg hlen, if_neg (by omega)]⟩
  go_enter Try.func50, Try.ntmps50
  go_wp2_with fail
  go_loop [5] (fun v => ∃ i : Int, v = .int .i64 i ∧ 0 ≤ i ∧ i ≤ ts.length ∧ Aside0 ((ts.drop i.toNat).any badW = ts.any badW)) (fun v => ts.length - (intOf v).toNat)
  case atStart => exact ⟨0, rfl, by omega, by omega, ⟨rfl⟩⟩
  case round =>
    obtain ⟨i, rfl, h0, h1, he⟩ := hrel
    by_cases hlt : i < ts.length
    · obtain ⟨ad, e1, g1⟩ := Kd.at_int HR.out i h0 hlt
      subst e1
      have h2 := he.out
      rw [drop_rd ts i h0 hlt, List.any_cons] at h2
      obtain ⟨x, hx⟩ : ∃ z, z = rd ts i := ⟨_, rfl⟩
      rw [← hx] at g1 h2
      unfold badW at h2
      have H2 := Aside0.mk h2; clear h2 hx he
      by_cases ha : x < 1
      · have d3 : decide (x < 1) = true := decide_eq_true ha
        have HE2 : Aside0 (worksE ts p = 2) := ⟨by rw [HE.out, if_pos]; have := H2.out; rw [d3] at this; exact this.symm.trans rfl⟩
        go_wp2_with fail
        go_ret
        exact ⟨ret_int HE2.out.symm, rfl⟩
      have d3 : decide (x < 1) = false := decide_eq_false ha
      by_cases hb : 1073741824 < x
      · have d4 : decide (1073741824 < x) = true := decide_eq_true hb
        have HE2 : Aside0 (worksE ts p = 2) := ⟨by rw [HE.out, if_pos]; have := H2.out; rw [d3, d4] at this; exact this.symm.trans rfl⟩
        go_wp2_with fail
        go_ret
        exact ⟨ret_int HE2.out.symm, rfl⟩
      have d4 : decide (1073741824 < x) = false := decide_eq_false hb
      go_wp2_with fail
      go_round
      case rel =>
        refine ⟨i + 1, by go_num, by omega, by omega, ⟨?_⟩⟩
        have := H2.out
        rw [d3, d4] at this
        exact this
      case measure => show ts.length - (i + 1).toNat < ts.length - i.toNat; omega
    · have HE2 : Aside0 (worksE ts p = 0) := ⟨by
        rw [HE.out, if_neg]
        rw [← he.out, List.drop_eq_nil_of_le (by omega)]
        simp⟩
      go_wp2_with fail
      go_ret
      exact ⟨ret_int HE2.out.symm, rfl⟩
end

/-! ### What the search for the best assignment to presses finds. -/
/-- One press's load behind one work more. -/
def upd (ld : Nat → Int) (p : Nat) (t : Int) : Nat → Int := fun k => if k = p then ld p + t else ld k
/-- The round over the presses, with its early end. -/
def shL {σ : Type} (rec : Nat → σ → σ) (brk : Nat → Bool) : Nat → Nat → σ → σ
  | 0, _, st => st
  | k + 1, p, st => if brk p = true then rec p st else shL rec brk k (p + 1) (rec p st)
/-- The search: the best so far, and its finish. -/
def shF (P : Nat) : List Int → Int → (Nat → Int) → List Int → List Int × Int → List Int × Int
  | [], fin, _, pre, st => if st.2 ≤ fin then st else (pre, fin)
  | t :: ts, fin, ld, pre, st => if st.2 ≤ fin then st else shL (fun p st => shF P ts (max fin (ld p + t)) (upd ld p t) (pre ++ [(p : Int)]) st) (fun p => ld p == 0) P 0 st
/-- An assignment from these loads on, each empty press the lowest such. -/
def Comp (P : Nat) (F : Int) : List Int → (Nat → Int) → List Int → Prop
  | [], _, l => l = []
  | t :: ts, ld, l => ∃ (p : Nat) (l' : List Int), l = (p : Int) :: l' ∧ p < P ∧ (∀ q, q < p → ld q ≠ 0) ∧ ld p + t ≤ F ∧ Comp P F ts (upd ld p t) l'
/-- What a search among the assignments Q does to the best so far. -/
def Sol (Q : Int → List Int → Prop) (fin : Int) (pre : List Int) (st st' : List Int × Int) : Prop :=
  (st' = st ∧ ∀ F, fin ≤ F → F < st.2 → ∀ l, ¬ Q F l) ∨
  ∃ F l, fin ≤ F ∧ F < st.2 ∧ st' = (pre ++ l, F) ∧ Q F l ∧ (∀ F', fin ≤ F' → F' < F → ∀ l', ¬ Q F' l') ∧ ∀ l', Q F l' → LexLe l l'
theorem Sol.none {Q : Int → List Int → Prop} {fin : Int} {pre : List Int} {st : List Int × Int} (h : ∀ F l, ¬ Q F l) : Sol Q fin pre st st := .inl ⟨rfl, fun F _ _ l => h F l⟩
theorem Sol.congr {Q R : Int → List Int → Prop} {fin : Int} {pre : List Int} {st st' : List Int × Int} (h : Sol Q fin pre st st') (e : ∀ F l, Q F l ↔ R F l) : Sol R fin pre st st' := by
  rcases h with ⟨h1, h2⟩ | ⟨F, l, h1, h2, h3, h4, h5, h6⟩
  · exact .inl ⟨h1, fun F a b l hq => h2 F a b l ((e F l).2 hq)⟩
  · exact .inr ⟨F, l, h1, h2, h3, (e F l).1 h4, fun F' a b l' hq => h5 F' a b l' ((e F' l').2 hq), fun l' hq => h6 l' ((e F l').2 hq)⟩
theorem Sol.step {Q1 Q2 : Int → List Int → Prop} {fin : Int} {pre : List Int} {st st1 st2 : List Int × Int} (h : Sol Q1 fin pre st st1) (k : Sol Q2 fin pre st1 st2) (o : ∀ F l1 l2, Q1 F l1 → Q2 F l2 → LexLe l1 l2) :
    Sol (fun F l => Q1 F l ∨ Q2 F l) fin pre st st2 := by
  rcases h with ⟨rfl, h2⟩ | ⟨F1, l1, h1, h2, rfl, h4, h5, h6⟩
  · rcases k with ⟨rfl, k2⟩ | ⟨F2, l2, k1, k2, rfl, k4, k5, k6⟩
    · exact .inl ⟨rfl, fun F a b l hq => hq.elim (h2 F a b l) (k2 F a b l)⟩
    · refine .inr ⟨F2, l2, k1, k2, rfl, .inr k4, fun F' a b l' hq => hq.elim (h2 F' a (by omega) l') (k5 F' a b l'), fun l' hq => hq.elim (fun h => absurd h (h2 F2 k1 k2 l')) (k6 l')⟩
  · rcases k with ⟨rfl, k2⟩ | ⟨F2, l2, k1, k2, rfl, k4, k5, k6⟩
    · exact .inr ⟨F1, l1, h1, h2, rfl, .inl h4, fun F' a b l' hq => hq.elim (h5 F' a b l') (k2 F' a b l'), fun l' hq => hq.elim (h6 l') (o F1 l1 l' h4)⟩
    · dsimp only at k2
      refine .inr ⟨F2, l2, k1, by omega, rfl, .inr k4, fun F' a b l' hq => hq.elim (h5 F' a (by omega) l') (k5 F' a b l'), fun l' hq => hq.elim (fun h => absurd h (h5 F2 k1 k2 l')) (k6 l')⟩
/-- One choice. -/
def Pick (P : Nat) (ts : List Int) (t : Int) (ld : Nat → Int) (p : Nat) (F : Int) (l : List Int) : Prop :=
  ∃ l', l = (p : Int) :: l' ∧ (∀ q, q < p → ld q ≠ 0) ∧ ld p + t ≤ F ∧ Comp P F ts (upd ld p t) l'
theorem Sol.pick {P : Nat} {ts : List Int} {t : Int} {ld : Nat → Int} {p : Nat} {fin : Int} {pre : List Int} {st st' : List Int × Int} (hq : ∀ q, q < p → ld q ≠ 0)
    (h : Sol (fun F l => Comp P F ts (upd ld p t) l) (max fin (ld p + t)) (pre ++ [(p : Int)]) st st') : Sol (Pick P ts t ld p) fin pre st st' := by
  rcases h with ⟨rfl, h2⟩ | ⟨F, l, h1, h2, rfl, h4, h5, h6⟩
  · refine .inl ⟨rfl, fun F a b l => ?_⟩
    rintro ⟨l', rfl, _, h3, h4⟩
    exact h2 F (by omega) b l' h4
  · refine .inr ⟨F, (p : Int) :: l, by omega, h2, by simp, ⟨l, rfl, hq, by omega, h4⟩, ?_, ?_⟩
    · rintro F' a b l' ⟨l2, rfl, _, h7, h8⟩
      exact h5 F' (by omega) b l2 h8
    · rintro l' ⟨l2, rfl, _, h7, h8⟩
      exact .inr ⟨rfl, h6 l2 h8⟩
theorem pick_lex {P : Nat} {ts : List Int} {t : Int} {ld : Nat → Int} {p q : Nat} {F : Int} {l l' : List Int} (hpq : p < q) (h : Pick P ts t ld p F l) (k : Pick P ts t ld q F l') : LexLe l l' := by
  obtain ⟨a, rfl, _⟩ := h
  obtain ⟨b, rfl, _⟩ := k
  exact .inl (by omega)
theorem shL_sol {P : Nat} {ts : List Int} {t : Int} {ld : Nat → Int} {fin : Int} {pre : List Int} {rec : Nat → List Int × Int → List Int × Int}
    (hr : ∀ p st, Sol (fun F l => Comp P F ts (upd ld p t) l) (max fin (ld p + t)) (pre ++ [(p : Int)]) st (rec p st)) :
    ∀ (k p : Nat) (st st1 : List Int × Int), (∀ q, q < p → ld q ≠ 0) → Sol (fun F l => ∃ q, q < p ∧ Pick P ts t ld q F l) fin pre st st1 →
      Sol (fun F l => ∃ q, q < p + k ∧ Pick P ts t ld q F l) fin pre st (shL rec (fun p => ld p == 0) k p st1) := by
  intro k
  induction k with
  | zero => intro p st st1 _ h; exact h
  | succ k ih =>
    intro p st st1 hq h
    have h2 := (h.step (Sol.pick hq (hr p st1)) (fun F l1 l2 ⟨q, hqp, a⟩ b => pick_lex hqp a b)).congr (R := fun F l => ∃ q, q < p + 1 ∧ Pick P ts t ld q F l) (fun F l => by
      constructor
      · rintro (⟨q, a, b⟩ | b)
        · exact ⟨q, by omega, b⟩
        · exact ⟨p, by omega, b⟩
      · rintro ⟨q, a, b⟩
        rcases (show q < p ∨ q = p by omega) with h | rfl
        · exact .inl ⟨q, h, b⟩
        · exact .inr b)
    unfold shL
    by_cases hb : ld p = 0
    · rw [if_pos (by simpa using hb)]
      refine h2.congr fun F l => ?_
      constructor
      · rintro ⟨q, a, b⟩; exact ⟨q, by omega, b⟩
      · rintro ⟨q, a, l', e, b, c⟩
        rcases (show q < p + 1 ∨ p < q by omega) with h | h
        · exact ⟨q, h, l', e, b, c⟩
        · exact absurd hb (b p h)
    · rw [if_neg (by simpa using hb)]
      have h3 := ih (p + 1) st (rec p st1) (fun q h => by
        rcases (show q < p ∨ q = p by omega) with h | rfl
        · exact hq q h
        · exact hb) h2
      rw [show p + 1 + k = p + (k + 1) by omega] at h3
      exact h3
/-- The search finds the least finish that is less, and the first assignment with it. -/
theorem shF_sol (P : Nat) : ∀ (ts : List Int) (fin : Int) (ld : Nat → Int) (pre : List Int) (st : List Int × Int), Sol (fun F l => Comp P F ts ld l) fin pre st (shF P ts fin ld pre st) := by
  intro ts
  induction ts with
  | nil =>
    intro fin ld pre st
    unfold shF
    by_cases h : st.2 ≤ fin
    · rw [if_pos h]; exact .inl ⟨rfl, fun F a b l => by omega⟩
    · rw [if_neg h]
      exact .inr ⟨fin, [], by omega, by omega, by simp, rfl, fun F' a b => by omega, fun l' _ => trivial⟩
  | cons t ts ih =>
    intro fin ld pre st
    unfold shF
    by_cases h : st.2 ≤ fin
    · rw [if_pos h]; exact .inl ⟨rfl, fun F a b l => by omega⟩
    · rw [if_neg h]
      have h2 := shL_sol (P := P) (ts := ts) (t := t) (ld := ld) (fin := fin) (pre := pre) (rec := fun p st => shF P ts (max fin (ld p + t)) (upd ld p t) (pre ++ [(p : Int)]) st) (fun p st => ih _ _ _ st) P 0 st st (fun q h => by omega) (Sol.none (fun F l => by rintro ⟨q, a, _⟩; omega))
      refine h2.congr fun F l => ?_
      constructor
      · rintro ⟨q, a, l', e, b, c, d⟩; exact ⟨q, l', e, by omega, b, c, d⟩
      · rintro ⟨q, l', e, a, b, c, d⟩; exact ⟨q, by omega, l', e, b, c, d⟩
/-! ### The same as the assignments to boxes -/
theorem put_fst (f : Nat → Int × Int) (p : Nat) (t : Int) : (fun k => (put f p t k).1) = upd (fun k => (f k).1) p t := by
  funext k
  unfold put upd
  split <;> rfl
theorem comp_free {P : Nat} {F each : Int} : ∀ (ts : List Int) (f : Nat → Int × Int) (l : List Int), (∀ b, (f b).2 + ts.length ≤ each) → Comp P F ts (fun k => (f k).1) l → Free F each P ts f l := by
  intro ts
  induction ts with
  | nil => intro f l _ h; exact h
  | cons t ts ih =>
    intro f l hc h
    obtain ⟨p, l', rfl, h1, _, h3, h4⟩ := h
    have hp := hc p
    simp only [List.length_cons, Int.natCast_add] at hp
    refine ⟨p, l', rfl, by omega, h3, by omega, ih _ _ (fun b => ?_) (by rw [put_fst]; exact h4)⟩
    have := hc b
    simp only [List.length_cons, Int.natCast_add] at this
    unfold put
    split
    · rename_i e; subst e; dsimp only; omega
    · omega
theorem way_comp {P : Nat} {F each : Int} : ∀ (ts : List Int) (used : Int) (f : Nat → Int × Int) (l : List Int), (∀ t ∈ ts, 1 ≤ t) → (∀ b, 0 ≤ (f b).1) → (∀ b : Nat, (b : Int) < used → (f b).1 ≠ 0) → Way F each P ts used f l → Comp P F ts (fun k => (f k).1) l := by
  intro ts
  induction ts with
  | nil => intro used f l _ _ _ h; exact h
  | cons t ts ih =>
    intro used f l ht h0 hu h
    obtain ⟨b, l', rfl, h1, h2, h3, _, h5⟩ := h
    have ht1 := ht t List.mem_cons_self
    refine ⟨b, l', rfl, by omega, fun q hq => hu q (by omega), h3, ?_⟩
    have h6 := ih _ (put f b t) l' (fun x hx => ht x (List.mem_cons_of_mem _ hx)) (fun k => by
      have a := h0 k
      have c := h0 b
      unfold put
      split
      · dsimp only; omega
      · exact a) (fun k hk => by
      have a := h0 b
      have c := hu k
      unfold put
      split
      · dsimp only; omega
      · rename_i e; exact c (by omega)) h5
    rwa [put_fst] at h6
/-- The least finish, and the first assignment with it. -/
def ShIs (ts : List Int) (P : Nat) (F : Int) (l : List Int) : Prop :=
  0 ≤ F ∧ Free F 12 P ts zf l ∧ (∀ F' l', 0 ≤ F' → F' < F → ¬ Free F' 12 P ts zf l') ∧ ∀ l', Free F 12 P ts zf l' → LexLe l l'
theorem ShIs.one {ts : List Int} {P : Nat} {F G : Int} {l m : List Int} (h : ShIs ts P F l) (k : ShIs ts P G m) : F = G ∧ l = m := by
  have e : F = G := by
    rcases (show F < G ∨ F = G ∨ G < F by omega) with a | a | a
    · exact absurd h.2.1 (k.2.2.1 F l h.1 a)
    · exact a
    · exact absurd k.2.1 (h.2.2.1 G m k.1 a)
  subst e
  exact ⟨rfl, (h.2.2.2 m k.2.1).antisymm (by rw [h.2.1.length, k.2.1.length]) (k.2.2.2 l h.2.1)⟩
/-- A search that begins above some assignment's finish finds the best. -/
theorem shF_best {ts : List Int} {P : Nat} {most : Int} {l0 : List Int} (hms : MOK ts) (hm : 0 ≤ most) (h : Free most 12 P ts zf l0) :
    ∃ F l, 0 ≤ F ∧ F ≤ most ∧ shF P ts 0 (fun _ => 0) [] ([], most + 1) = (l, F) ∧ ShIs ts P F l := by
  have key : ∀ F l, Free F 12 P ts zf l → ∃ l', Comp P F ts (fun _ => 0) l' ∧ LexLe l' l := fun F l hf => by
    obtain ⟨l', hw, hl⟩ := hf.way 0 (fun _ _ => rfl)
    exact ⟨l', way_comp ts 0 zf l' hms.pos (fun _ => by simp [zf]) (fun b hb => by omega) hw, hl⟩
  have back : ∀ F l, Comp P F ts (fun _ => 0) l → Free F 12 P ts zf l := fun F l hc => comp_free ts zf l (fun b => by have := hms.1; simp [zf]; omega) hc
  rcases shF_sol P ts 0 (fun _ => 0) [] ([], most + 1) with ⟨_, h2⟩ | ⟨F, l, h1, h2, h3, h4, h5, h6⟩
  · obtain ⟨l', hc, _⟩ := key most l0 h
    exact absurd hc (h2 most hm (by show most < most + 1; omega) l')
  · have h2' : F < most + 1 := h2
    refine ⟨F, l, h1, by omega, by rw [h3]; rfl, h1, back F l h4, ?_, fun l' hf => ?_⟩
    · intro F' l' h0 hF hf
      obtain ⟨l2, hc, _⟩ := key F' l' hf
      exact h5 F' h0 hF l2 hc
    · obtain ⟨l2, hc, hl⟩ := key F l' hf
      exact (h6 l2 hc).trans hl

/-! ### The copy of a list by the library, in memory of its own. -/
/-- A row of one's own, read as a list. -/
theorem own_C {w : World} {base n : Nat} {v : Value} {xs : List Int} (h : w.ownsRow base 3 1 v n (ints xs)) :
    ∃ B cap, v = .slice B n cap ∧ (Kd.int .i64).C w B n xs ∧ (∀ ad, B = some ad → base ≤ ad.block) := by
  obtain ⟨h1, ⟨rfl, rfl⟩ | ⟨q, cap, cur, rfl, h2, h3, h4, h5, h6, h7⟩⟩ := h
  · have : xs = [] := List.eq_nil_of_length_eq_zero (by rw [ints_length] at h1; omega)
    subst this
    exact ⟨none, 0, rfl, nil_C w, fun ad e => by cases e⟩
  · rw [ints_length] at h1
    refine ⟨_, _, rfl, ⟨by omega, by unfold maxLen at h5; omega, fun _ => ⟨_, rfl, fun j p hp => ⟨[.int .i64 p], rfl, rfl, fun i u hi => ?_⟩⟩⟩, fun ad e => by cases e; exact h2⟩
    have hj : j < xs.length := (List.getElem?_eq_some_iff.1 hp).1
    cases i with
    | zero =>
      simp only [List.getElem?_cons_zero, Option.some.injEq] at hi
      subst hi
      rw [add_plain]
      show w.cell? ⟨q, j * 1 + 0, none⟩ = _
      rw [Nat.mul_one, Nat.add_zero]
      have hc : w.cell? ⟨q, j, none⟩ = cur.toList[j]? := by simp [World.cell?, h3]
      have ht : (cur.toList.take (n * 1))[j]? = cur.toList[j]? := by rw [List.getElem?_take, if_pos (by omega)]
      rw [hc, ← ht, h7, ints_get xs hj, List.getD_eq_getElem?_getD, hp]
      rfl
    | succ i => simp at hi

set_option maxHeartbeats 2000000 in
set_option maxRecDepth 100000 in
theorem clone_any (w : World) (g : Nat) (xs : List Int) (h : Blk w g (ints xs) 3) (hl : xs.length ≤ 100000) :
    Calls Try.prog 49 #[.slice (some ⟨g, 0, none⟩) xs.length xs.length] w fun e w' => ∃ B cap, e = .returned (.slice B xs.length cap) ∧ (Kd.int .i64).C w' B xs.length xs ∧ (∀ ad, B = some ad → w.heap.size ≤ ad.block) ∧ Below w.heap.size w w' := by
  obtain ⟨i0, hi, hz0, hz1, hz2⟩ := info_parts info3
  have q22 : ∀ (w : World) (a : Option Addr) (n c n' c' : Nat), (binOp .eql 22 (.slice a n c) (.slice none n' c')).run Try.prog w = .ok (.bool a.isNone) w := fun w a n c n' c' => Go.Lib.run_eql_slice_nil w _ _ a n c n' c' Try.underlying22
  have H := Aside0.mk h; clear h
  go_enter Try.func49, Try.ntmps49
  go_wp2_with (at_builtin; refine wpList_append_own _ rfl _ _ 22 rfl w.heap.size 3 i0 (.int .i64 0) 1 8 Try.underlying22 hi hz0 hz1 hz2 rfl (by decide) _ _ _ rfl (World.ownsRow_made w #[] 0 (Nat.le_refl _) (Nat.zero_le _) rfl) ⟨g, 0, none⟩ xs.length xs.length (ints xs) rfl ?qc1 ?qc2 ?qc3 ?qc4 ?qc5 ?qc6 ?_)
  case qc1 => simp [ints_length]
  case qc2 =>
    intro j u hj
    have hjn : j < (ints xs).length := (List.getElem?_eq_some_iff.1 hj).1
    rw [Addr.add_lit]
    refine Go.Lib.cell?_alloc_some _ ?_
    rw [Nat.zero_add]
    exact H.out.at_ hj
  case qc3 => intro u hu; obtain ⟨x, _, rfl⟩ := List.mem_map.1 hu; rfl
  case qc4 => unfold maxLen; omega
  case qc5 => omega
  case qc6 => simp
  intro v' w1 hown hgrow hnil
  go_wp2
  go_ret
  obtain ⟨B, cap, rfl, h1, h2⟩ := own_C (n := xs.length) (xs := xs) (by simpa using hown)
  exact ⟨B, cap, rfl, h1, h2, ((Below.refl _ w).alloc (Nat.le_refl _) _).grown hgrow (by simp) (by intro k hk; simp [Value.ownBlock] at hk; omega)⟩

/-! ### The memory that the search for an assignment to presses works on. -/
def lds (ld : Nat → Int) : List Int := [ld 0, ld 1, ld 2, ld 3]
theorem lds_get (ld : Nat → Int) {p : Nat} (h : p < 4) : (lds ld).getD p 0 = ld p := by
  match p, h with
  | 0, _ => rfl
  | 1, _ => rfl
  | 2, _ => rfl
  | 3, _ => rfl
theorem lds_set (ld : Nat → Int) {p : Nat} (h : p < 4) (t : Int) : (lds ld).set p (ld p + t) = lds (upd ld p t) := by
  match p, h with
  | 0, _ => rfl
  | 1, _ => rfl
  | 2, _ => rfl
  | 3, _ => rfl
theorem upd_self (ld : Nat → Int) (p : Nat) (t : Int) : upd ld p t p = ld p + t := by unfold upd; rw [if_pos rfl]
theorem upd_back (ld : Nat → Int) (p : Nat) (t : Int) : upd (upd ld p t) p (-t) = ld := by
  funext k
  unfold upd
  by_cases h : k = p
  · subst h; rw [if_pos rfl, if_pos rfl]; omega
  · rw [if_neg h, if_neg h]
/-- The blocks that the search writes. -/
def SF (bl bb bd g : Nat) (i : Nat) : Prop := i = bl ∨ i = bb ∨ i = bd ∨ i = g
structure SH (N bl bt bg bb bp bd bs g : Nat) (A : Option Addr) (c : Nat) (ts : List Int) (P : Nat) (B : Option Addr) (n cap : Nat) (st : List Int × Int) (ld : Nat → Int) (gv : List Int) (w : World) : Prop where
  l : Blk w bl [.int .i64 st.2] 3
  t : Blk w bt [.slice A ts.length c] 22
  r : (Kd.int .i64).C w A ts.length ts
  ra : 0 < ts.length → ∀ ad, A = some ad → ad.block < N
  g1 : Blk w bg [.slice (some ⟨g, 0, none⟩) ts.length ts.length] 22
  g2 : Blk w g (ints gv) 3
  gl : gv.length = ts.length
  b1 : Blk w bb [.slice B n cap] 22
  b2 : (Kd.int .i64).C w B n st.1
  b3 : 0 < n → ∀ ad, B = some ad → ¬ SF bl bb bd g ad.block
  p : Blk w bp [.int .i64 P] 3
  d : Blk w bd (ints (lds ld)) 68
  s : Blk w bs [.func (.func 48) #[] #[.pointer (some ⟨bl, 0, none⟩), .pointer (some ⟨bt, 0, none⟩), .pointer (some ⟨bg, 0, none⟩), .pointer (some ⟨bb, 0, none⟩), .pointer (some ⟨bp, 0, none⟩), .pointer (some ⟨bd, 0, none⟩), .pointer (some ⟨bs, 0, none⟩)]] 69
  nl : N ≤ bl
  nb : N ≤ bb
  nd : N ≤ bd
  ng : N ≤ g
  x1 : bl ≠ bp
  x2 : bl ≠ g
  x3 : bp ≠ g
  x4 : bt ≠ bb
  x5 : bg ≠ bb

section
variable {N bl bt bg bb bp bd bs g : Nat} {A : Option Addr} {c : Nat} {ts : List Int} {P : Nat} {B : Option Addr} {n cap : Nat} {st : List Int × Int} {ld : Nat → Int} {gv : List Int} {w w1 : World}
theorem SH.kp (h : SH N bl bt bg bb bp bd bs g A c ts P B n cap st ld gv w) (hN : N ≤ w.heap.size) (k : Kp (SF bl bb bd g) w w1) {B1 : Option Addr} {n1 cap1 : Nat} {st1 : List Int × Int} {ld1 : Nat → Int} {gv1 : List Int}
    (hl : Blk w1 bl [.int .i64 st1.2] 3) (h1 : Blk w1 bb [.slice B1 n1 cap1] 22) (h2 : (Kd.int .i64).C w1 B1 n1 st1.1) (h3 : 0 < n1 → ∀ ad, B1 = some ad → ¬ SF bl bb bd g ad.block) (hd : Blk w1 bd (ints (lds ld1)) 68) (hg : Blk w1 g (ints gv1) 3) (hgl : gv1.length = ts.length) :
    SH N bl bt bg bb bp bd bs g A c ts P B1 n1 cap1 st1 ld1 gv1 w1 := by
  have n3 : ∀ x cs t, Blk w x cs t → t ≠ 3 → x ≠ bl ∧ x ≠ g := fun x cs t hx ht => ⟨hx.ne_of_type h.l ht, hx.ne_of_type h.g2 ht⟩
  have n22 : ∀ x cs t, Blk w x cs t → t ≠ 22 → x ≠ bb := fun x cs t hx ht => hx.ne_of_type h.b1 ht
  have n68 : ∀ x cs t, Blk w x cs t → t ≠ 68 → x ≠ bd := fun x cs t hx ht => hx.ne_of_type h.d ht
  exact { h with
    l := hl
    t := h.t.kp k (fun hs => by rcases hs with e | e | e | e; exact (n3 _ _ _ h.t (by decide)).1 e; exact h.x4 e; exact n68 _ _ _ h.t (by decide) e; exact (n3 _ _ _ h.t (by decide)).2 e)
    r := C_kp h.r k fun hp ad e => ⟨Nat.lt_of_lt_of_le (h.ra hp ad e) hN, fun hs => by have := h.ra hp ad e; have := h.nl; have := h.nb; have := h.nd; have := h.ng; rcases hs with e | e | e | e <;> omega⟩
    g1 := h.g1.kp k (fun hs => by rcases hs with e | e | e | e; exact (n3 _ _ _ h.g1 (by decide)).1 e; exact h.x5 e; exact n68 _ _ _ h.g1 (by decide) e; exact (n3 _ _ _ h.g1 (by decide)).2 e)
    g2 := hg
    gl := hgl
    b1 := h1
    b2 := h2
    b3 := h3
    p := h.p.kp k (fun hs => by rcases hs with e | e | e | e; exact h.x1 e.symm; exact n22 _ _ _ h.p (by decide) e; exact n68 _ _ _ h.p (by decide) e; exact h.x3 e)
    d := hd
    s := h.s.kp k (fun hs => by rcases hs with e | e | e | e; exact (n3 _ _ _ h.s (by decide)).1 e; exact n22 _ _ _ h.s (by decide) e; exact n68 _ _ _ h.s (by decide) e; exact (n3 _ _ _ h.s (by decide)).2 e) }
theorem SH.lt (h : SH N bl bt bg bb bp bd bs g A c ts P B n cap st ld gv w) : 0 < n → ∀ ad, B = some ad → ad.block < w.heap.size := C_lt h.b2
/-- One press more, or back. -/
theorem SH.setD (h : SH N bl bt bg bb bp bd bs g A c ts P B n cap st ld gv w) (hN : N ≤ w.heap.size) (p : Int) (h0 : 0 ≤ p) (h4 : p < 4) {q t : Int} (hq : q = ld p.toNat + t) :
    SH N bl bt bg bb bp bd bs g A c ts P B n cap st (upd ld p.toNat t) gv (w.setCell ⟨bd, p.toNat, none⟩ (.int .i64 q)).drew := by
  have k : Kp (SF bl bb bd g) w (w.setCell ⟨bd, p.toNat, none⟩ (.int .i64 q)).drew := ((Kp.refl _ w).setCell (fun _ => .inr (.inr (.inl rfl))) _).drew
  refine h.kp hN k ((h.l.far (h.l.ne_of_type h.d (by decide)) _).drew) ((h.b1.far (h.b1.ne_of_type h.d (by decide)) _).drew) (C_kp h.b2 k fun hp ad e => ⟨h.lt hp ad e, h.b3 hp ad e⟩) h.b3 ?_ ((h.g2.far (h.g2.ne_of_type h.d (by decide)) _).drew) h.gl
  have a := h.d.set p.toNat (.int .i64 q)
  rw [ints_set, hq, lds_set ld (by omega)] at a
  rw [hq]
  exact a.drew
theorem SH.setG (h : SH N bl bt bg bb bp bd bs g A c ts P B n cap st ld gv w) (hN : N ≤ w.heap.size) (i : Nat) (p : Int) :
    SH N bl bt bg bb bp bd bs g A c ts P B n cap st ld (gv.set i p) (w.setCell ⟨g, i, none⟩ (.int .i64 p)) := by
  have k : Kp (SF bl bb bd g) w (w.setCell ⟨g, i, none⟩ (.int .i64 p)) := (Kp.refl _ w).setCell (fun _ => .inr (.inr (.inr rfl))) _
  refine h.kp hN k (h.l.far h.x2 _) (h.b1.far (h.b1.ne_of_type h.g2 (by decide)) _) (C_kp h.b2 k fun hp ad e => ⟨h.lt hp ad e, h.b3 hp ad e⟩) h.b3 (h.d.far (h.d.ne_of_type h.g2 (by decide)) _) ?_ (by simpa using h.gl)
  have a := h.g2.set i (.int .i64 p)
  rwa [ints_set] at a
/-- What the search leaves. -/
def SHx (N bl bt bg bb bp bd bs g : Nat) (A : Option Addr) (c : Nat) (ts : List Int) (P : Nat) (st : List Int × Int) (ld : Nat → Int) (gv : List Int) (w : World) : Prop :=
  ∃ B n cap, SH N bl bt bg bb bp bd bs g A c ts P B n cap st ld gv w
def SPost (N bl bt bg bb bp bd bs g : Nat) (A : Option Addr) (c : Nat) (ts : List Int) (P : Nat) (st : List Int × Int) (ld : Nat → Int) (gv : List Int) (i : Nat) (w w' : World) : Prop :=
  Kp (SF bl bb bd g) w w' ∧ ∃ gv1, SHx N bl bt bg bb bp bd bs g A c ts P st ld gv1 w' ∧ gv1.take i = gv.take i
end

/-! ### The walk through the search for an assignment to presses. -/
section
variable {N bl bt bg bb bp bd bs g : Nat} {A : Option Addr} {c : Nat} {ts : List Int} {P : Nat} {B : Option Addr} {n cap : Nat} {st : List Int × Int} {ld : Nat → Int} {gv : List Int} {w : World}
theorem sh_out (h : SH N bl bt bg bb bp bd bs g A c ts P B n cap st ld gv w) (i fin : Int) (hf : st.2 ≤ fin) :
    Calls Try.prog 48 #[.int .i64 i, .int .i64 fin, .pointer (some ⟨bl, 0, none⟩), .pointer (some ⟨bt, 0, none⟩), .pointer (some ⟨bg, 0, none⟩), .pointer (some ⟨bb, 0, none⟩), .pointer (some ⟨bp, 0, none⟩), .pointer (some ⟨bd, 0, none⟩), .pointer (some ⟨bs, 0, none⟩)] w
      fun e w' => e = .returned (.tuple #[]) ∧ w = w' := by
  have f1 := h.l.at_ (i := 0) rfl
  have d1 : decide (st.2 ≤ fin) = true := decide_eq_true hf
  clear h
  go_enter Try.func48, Try.ntmps48
  go_wp2_with fail
  refine bodyPost_ret (v := .tuple #[]) (by simp [results, Try.results48, go_sem]) rfl ?_
  exact ⟨rfl, rfl⟩
set_option maxHeartbeats 2000000 in
theorem sh_leaf (h : SH N bl bt bg bb bp bd bs g A c ts P B n cap st ld gv w) (hN : N ≤ w.heap.size) (fin : Int) (hf : ¬ st.2 ≤ fin) (hlen : ts.length ≤ 12) :
    Calls Try.prog 48 #[.int .i64 ts.length, .int .i64 fin, .pointer (some ⟨bl, 0, none⟩), .pointer (some ⟨bt, 0, none⟩), .pointer (some ⟨bg, 0, none⟩), .pointer (some ⟨bb, 0, none⟩), .pointer (some ⟨bp, 0, none⟩), .pointer (some ⟨bd, 0, none⟩), .pointer (some ⟨bs, 0, none⟩)] w
      fun e w' => e = .returned (.tuple #[]) ∧ SPost N bl bt bg bb bp bd bs g A c ts P (gv, fin) ld gv ts.length w w' := by
  have f1 := h.l.at_ (i := 0) rfl
  have f2 := h.t.at_ (i := 0) rfl
  have f3 := h.g1.at_ (i := 0) rfl
  have d1 : decide (st.2 ≤ fin) = false := decide_eq_false hf
  have hgl := h.gl
  have hc := clone_any w g gv h.g2 (by omega)
  rw [hgl] at hc
  have HCL := Aside0.mk hc; clear hc
  have H := Aside0.mk h; clear h
  have HG := Aside0.mk hgl; clear hgl
  go_enter Try.func48, Try.ntmps48
  go_wp2_with ((with_reducible refine HCL.out.mono ?_); rintro e1 w1 ⟨B1, cap1, rfl, hC1, hB1, hb1⟩; have q1 := (H.out.b1.below hb1).at_ (i := 0) rfl; have q2 := (H.out.b1.below hb1).free 0; have q3 := (H.out.l.below hb1).at_ (i := 0) rfl; have q4 := (H.out.l.below hb1).free 0; have q5 : bb ≠ bl := H.out.b1.ne_of_type H.out.l (by decide); have H1 := Aside0.mk (And.intro hC1 (And.intro hB1 hb1)); clear hC1 hB1 hb1)
  refine bodyPost_ret (v := .tuple #[]) (by simp [results, Try.results48, go_sem]) rfl ?_
  refine ⟨rfl, ?_⟩
  obtain ⟨hC1, hB1, hb1⟩ := H1.out
  have k : Kp (SF bl bb bd g) w ((w1.setCell ⟨bb, 0, none⟩ (.slice B1 ts.length cap1)).setCell ⟨bl, 0, none⟩ (.int .i64 fin)) :=
    ((Kp.of_below hb1).setCell (fun _ => .inr (.inl rfl)) _).setCell (fun _ => .inl rfl) _
  have s1 := H.out.b1.below hb1
  have s2 := H.out.l.below hb1
  have hfar : ∀ ad, B1 = some ad → 0 < ts.length → ad.block ≠ bb ∧ ad.block ≠ bl := fun ad e _ => by
    have := hB1 ad e
    have := H.out.b1.lt
    have := H.out.l.lt
    omega
  refine ⟨k, gv, ⟨B1, ts.length, cap1, H.out.kp hN k (st1 := (gv, fin)) (s2.far (H.out.l.ne_of_type H.out.b1 (by decide)) _ |>.set 0 _) ((s1.set 0 _).far q5 _) ?_ ?_ (((H.out.d.below hb1).far (H.out.d.ne_of_type H.out.b1 (by decide)) _).far (H.out.d.ne_of_type H.out.l (by decide)) _) (((H.out.g2.below hb1).far (H.out.g2.ne_of_type H.out.b1 (by decide)) _).far (fun e => H.out.x2 e.symm) _) HG.out⟩, rfl⟩
  · refine C_of_cells hC1 fun hp ad e j => ?_
    have := hfar ad e hp
    rw [World.cell?_of_block (w := w1) (a := ad.add j)]
    rw [add_block]
    exact (Below.heap_setCell _ _ _ _ (show ad.block ≠ bl by omega)).trans (Below.heap_setCell _ _ _ _ (show ad.block ≠ bb by omega))
  · intro hp ad e hs
    have a := hB1 ad e
    have a1 := H.out.l.lt
    have a2 := H.out.b1.lt
    have a3 := H.out.d.lt
    have a4 := H.out.g2.lt
    rcases hs with e | e | e | e <;> omega
end

end Go.Proofs.Ytnoocdobldchoaa
