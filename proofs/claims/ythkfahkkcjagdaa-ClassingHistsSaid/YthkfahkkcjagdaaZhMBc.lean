/- Texts of this claim and words of the kit's print, trimmed to what it uses and joined. -/
import Derived.Test.YthkfahkkcjagdaaZhMBb
import Derived.Test.YthkfahkkcjagdaaZhK
section
namespace Go.Proofs.Ythkfahkkcjagdaa
open PClassingBases Go.RowKit Go.Proofs.YthkfahkkcjagdaaW.PrintWords Go.Proofs.YthkfahkkcjagdaaW.PrintMore Go.Proofs.YthkfahkkcjagdaaW.PrintLast

/-- The number of a row of digits. -/
def val : List Int → Nat
  | [] => 0
  | d :: l => d.toNat + 10000 * val l
/-- The row of digits of a number. -/
def dig (n : Nat) : List Int := if n = 0 then [] else ((n % 10000 : Nat) : Int) :: dig (n / 10000)
termination_by n
decreasing_by omega
def Rng (l : List Int) : Prop := ∀ x ∈ l, 0 ≤ x ∧ x < 10000
theorem dig_zero : dig 0 = [] := by rw [dig]; rfl
theorem dig_pos {n : Nat} (h : 0 < n) : dig n = ((n % 10000 : Nat) : Int) :: dig (n / 10000) := by rw [dig, if_neg (by omega)]
theorem val_dig (n : Nat) : val (dig n) = n := by
  induction n using Nat.strongRecOn with
  | _ n ih =>
    rcases Nat.eq_zero_or_pos n with rfl | h
    · rw [dig_zero]; rfl
    · rw [dig_pos h]
      show ((n % 10000 : Nat) : Int).toNat + 10000 * val (dig (n / 10000)) = n
      rw [ih _ (by omega)]
      omega
theorem Rng_nil : Rng [] := fun x h => by simp at h
theorem Rng.cons {d : Int} {l : List Int} (h : 0 ≤ d ∧ d < 10000) (k : Rng l) : Rng (d :: l) := by
  intro x hx
  rcases List.mem_cons.1 hx with rfl | hx
  · exact h
  · exact k x hx
theorem Rng.tail {d : Int} {l : List Int} (h : Rng (d :: l)) : Rng l := fun x hx => h x (List.mem_cons_of_mem _ hx)
theorem Rng.head {d : Int} {l : List Int} (h : Rng (d :: l)) : 0 ≤ d ∧ d < 10000 := h d List.mem_cons_self
theorem Rng.take {l : List Int} (h : Rng l) (n : Nat) : Rng (l.take n) := fun x hx => h x (List.mem_of_mem_take hx)
theorem Rng.drop {l : List Int} (h : Rng l) (n : Nat) : Rng (l.drop n) := fun x hx => h x (List.mem_of_mem_drop hx)
theorem Rng.append {l m : List Int} (h : Rng l) (k : Rng m) : Rng (l ++ m) := fun x hx => by
  rcases List.mem_append.1 hx with hx | hx
  · exact h x hx
  · exact k x hx
theorem Rng.one {d : Int} (h : 0 ≤ d ∧ d < 10000) : Rng [d] := Rng.cons h Rng_nil
theorem Rng.getD {l : List Int} (h : Rng l) (i : Nat) : 0 ≤ l.getD i 0 ∧ l.getD i 0 < 10000 := by
  rw [List.getD_eq_getElem?_getD]
  cases e : l[i]? with
  | none => simp
  | some x => exact h x (List.mem_of_getElem? e)
theorem Rng.set {l : List Int} (h : Rng l) (i : Nat) {v : Int} (hv : 0 ≤ v ∧ v < 10000) : Rng (l.set i v) := fun x hx => by
  rcases List.mem_or_eq_of_mem_set hx with hx | rfl
  · exact h x hx
  · exact hv
theorem Rng_dig (n : Nat) : Rng (dig n) := by
  induction n using Nat.strongRecOn with
  | _ n ih =>
    rcases Nat.eq_zero_or_pos n with rfl | h
    · rw [dig_zero]; exact Rng_nil
    · rw [dig_pos h]
      exact Rng.cons (by omega) (ih _ (by omega))
theorem dig_eq_nil {n : Nat} : dig n = [] ↔ n = 0 := by
  constructor
  · intro h
    rw [← val_dig n, h]; rfl
  · rintro rfl; exact dig_zero
theorem dig_len0 {n : Nat} : (dig n).length = 0 ↔ n = 0 := by rw [List.length_eq_zero_iff, dig_eq_nil]
theorem dig_mono {a b : Nat} (h : a ≤ b) : (dig a).length ≤ (dig b).length := by
  induction b using Nat.strongRecOn generalizing a with
  | _ b ih =>
    rcases Nat.eq_zero_or_pos a with rfl | ha
    · rw [dig_zero]; exact Nat.zero_le _
    · rw [dig_pos ha, dig_pos (show 0 < b by omega), List.length_cons, List.length_cons]
      have := ih (b / 10000) (by omega) (a := a / 10000) (Nat.div_le_div_right h)
      omega
theorem dig_len_lt {n e : Nat} : n < 10000 ^ e → (dig n).length ≤ e := by
  induction e generalizing n with
  | zero => intro h; rw [show n = 0 by simp at h; omega, dig_zero]; exact Nat.zero_le _
  | succ e ih =>
    intro h
    rcases Nat.eq_zero_or_pos n with rfl | hn
    · rw [dig_zero]; exact Nat.zero_le _
    · rw [dig_pos hn, List.length_cons]
      have : n / 10000 < 10000 ^ e := by rw [Nat.pow_succ] at h; omega
      have := ih this
      omega
theorem val_append (l m : List Int) : val (l ++ m) = val l + 10000 ^ l.length * val m := by
  induction l with
  | nil => simp [val]
  | cons d l ih =>
    show d.toNat + 10000 * val (l ++ m) = d.toNat + 10000 * val l + 10000 ^ (l.length + 1) * val m
    rw [ih, Nat.pow_succ, Nat.mul_add, ← Nat.mul_assoc, Nat.mul_comm 10000 (10000 ^ l.length)]
    omega
theorem val_lt {l : List Int} (h : Rng l) : val l < 10000 ^ l.length := by
  induction l with
  | nil => simp [val]
  | cons d l ih =>
    have h1 := h.head
    have h2 := ih h.tail
    show d.toNat + 10000 * val l < 10000 ^ (l.length + 1)
    rw [Nat.pow_succ]
    omega
theorem val_split (l : List Int) (n : Nat) (hn : n ≤ l.length) : val l = val (l.take n) + 10000 ^ n * val (l.drop n) := by
  have := val_append (l.take n) (l.drop n)
  rw [List.take_append_drop, List.length_take, Nat.min_eq_left hn] at this
  exact this
theorem take_next (l : List Int) {n : Nat} (hn : n < l.length) : l.take (n + 1) = l.take n ++ [l.getD n 0] := by
  rw [List.take_succ_eq_append_getElem hn, List.getD_eq_getElem?_getD, List.getElem?_eq_getElem hn]; rfl
theorem val_take_succ (l : List Int) {n : Nat} (hn : n < l.length) : val (l.take (n + 1)) = val (l.take n) + 10000 ^ n * (l.getD n 0).toNat := by
  rw [take_next l hn, val_append, List.length_take, Nat.min_eq_left (by omega)]
  simp [val]
theorem val_set (l : List Int) (v : Int) : ∀ (n : Nat), n < l.length → val (l.set n v) + 10000 ^ n * (l.getD n 0).toNat = val l + 10000 ^ n * v.toNat := by
  induction l with
  | nil => intro n hn; simp at hn
  | cons d l ih =>
    intro n hn
    cases n with
    | zero => simp [val]; omega
    | succ n =>
      rw [List.length_cons] at hn
      have h1 := ih n (by omega)
      rw [List.set_cons_succ, List.getD_cons_succ]
      show d.toNat + 10000 * val (l.set n v) + 10000 ^ (n + 1) * (l.getD n 0).toNat = d.toNat + 10000 * val l + 10000 ^ (n + 1) * v.toNat
      rw [Nat.pow_succ, Nat.mul_comm (10000 ^ n) 10000, Nat.mul_assoc, Nat.mul_assoc]
      omega
theorem val_zeros (n : Nat) : val (List.replicate n 0) = 0 := by
  induction n with
  | zero => rfl
  | succ n ih => rw [List.replicate_succ]; simp [val, ih]
theorem Rng_zeros (n : Nat) : Rng (List.replicate n 0) := fun x hx => by
  rw [List.mem_replicate] at hx
  omega
/-- Without the highest digits that are 0. -/
def tr : List Int → List Int
  | [] => []
  | d :: l => if tr l = [] ∧ d = 0 then [] else d :: tr l
theorem tr_dig {l : List Int} (h : Rng l) : tr l = dig (val l) := by
  induction l with
  | nil => rw [show val [] = 0 from rfl, dig_zero]; rfl
  | cons d l ih =>
    have h1 := h.head
    have h2 := ih h.tail
    show (if tr l = [] ∧ d = 0 then [] else d :: tr l) = dig (d.toNat + 10000 * val l)
    by_cases hz : val l = 0 ∧ d = 0
    · rw [if_pos ⟨by rw [h2, hz.1, dig_zero], hz.2⟩, hz.1, hz.2]
      rw [show (0 : Int).toNat + 10000 * 0 = 0 from rfl, dig_zero]
    · rw [if_neg (fun e => hz ⟨by rw [h2] at e; exact dig_eq_nil.1 e.1, e.2⟩), dig_pos (by omega)]
      rw [h2, show (d.toNat + 10000 * val l) / 10000 = val l by omega]
      congr 1
      omega
theorem tr_take (l : List Int) : ∀ (m : Nat), m ≤ l.length → (∀ x ∈ l.drop m, x = 0) → (m = 0 ∨ l.getD (m - 1) 0 ≠ 0) → tr l = l.take m := by
  induction l with
  | nil => intro m _ _ _; simp [tr]
  | cons d l ih =>
    intro m hm hz hd
    show (if tr l = [] ∧ d = 0 then [] else d :: tr l) = _
    cases m with
    | zero =>
      have h1 := ih 0 (Nat.zero_le _) (fun x hx => hz x (List.mem_cons_of_mem _ hx)) (.inl rfl)
      rw [List.take_zero] at h1
      rw [if_pos ⟨h1, hz d List.mem_cons_self⟩, List.take_zero]
    | succ m =>
      rw [List.length_cons] at hm
      rw [List.drop_succ_cons] at hz
      have hd' : (d :: l).getD m 0 ≠ 0 := by
        rcases hd with hd | hd
        · omega
        · exact hd
      have h1 := ih m (by omega) hz (by
        cases m with
        | zero => exact .inl rfl
        | succ m => exact .inr (by rw [List.getD_cons_succ] at hd'; exact hd'))
      rw [h1, if_neg, List.take_succ_cons]
      rintro ⟨e1, e2⟩
      cases m with
      | zero => exact hd' (by simpa using e2)
      | succ m =>
        have : (l.take (m + 1)).length = 0 := by rw [e1]; rfl
        rw [List.length_take] at this
        omega
theorem wrap_id {x : Int} (h : -9223372036854775808 ≤ x) (h2 : x ≤ 9223372036854775807) : wrap64 x = x := by
  unfold wrap64
  omega
/-! ### trim, whole, Of -/
theorem copy_ev (l : List Int) (m : Nat) (hm : m ≤ l.length) (hl : l.length ≤ 1000000) : ∀ (e i : Nat), i + e = m → Ev (fun k => merinoref01_trim.l1 k l m (l.take i) i) (l.take m) := by
  intro e
  induction e with
  | zero =>
    intro i hi
    obtain rfl : i = m := by omega
    exact Ev.step (f := fun _ => some (l.take i)) (fun k => by simp only [merinoref01_trim.l1]; rw [if_neg (by omega)]) (Ev.now _)
  | succ e ih =>
    intro i hi
    refine Ev.step (f := fun k => merinoref01_trim.l1 k l m (l.take (i + 1)) ((i + 1 : Nat) : Int)) (fun k => ?_) (ih (i + 1) (by omega))
    simp only [merinoref01_trim.l1]
    rw [if_pos (by omega), if_pos (by omega), if_pos (by omega), if_pos (by rw [List.length_take]; omega), wrap_id (by omega) (by omega)]
    congr 1
    rw [take_next l (by omega)]
    unfold rd
    rw [Int.toNat_natCast]
theorem trim_l0_ev (l : List Int) (hl : l.length ≤ 1000000) : ∀ (m : Nat), m ≤ l.length → (∀ x ∈ l.drop m, x = 0) → Ev (fun k => merinoref01_trim.l0 k l m) (tr l) := by
  intro m
  induction m with
  | zero =>
    intro hm hz
    rw [tr_take l 0 hm hz (.inl rfl)]
    refine Ev.step (f := fun k => merinoref01_trim.j1 k l 0) (fun k => by simp only [merinoref01_trim.l0]; rw [if_neg (by omega)]; rfl) ?_
    exact Ev.step (f := fun k => merinoref01_trim.l1 k l 0 [] 0) (fun k => by simp only [merinoref01_trim.j1]) (copy_ev l 0 (by omega) hl 0 0 rfl)
  | succ m ih =>
    intro hm hz
    have e : wrap64 (((m + 1 : Nat) : Int) - 1) = (m : Int) := by rw [wrap_id (by omega) (by omega)]; omega
    by_cases h0 : l.getD m 0 = 0
    · refine Ev.step (f := fun k => merinoref01_trim.l0 k l m) (fun k => ?_) (ih (by omega) (fun x hx => ?_))
      · simp only [merinoref01_trim.l0]
        rw [if_pos (by omega), e, if_pos (by omega), if_pos (by omega), if_pos (by unfold rd; rw [Int.toNat_natCast]; exact h0)]
      · rw [List.drop_eq_getElem_cons (by omega)] at hx
        rcases List.mem_cons.1 hx with rfl | hx
        · rw [List.getD_eq_getElem?_getD, List.getElem?_eq_getElem (by omega)] at h0
          exact h0
        · exact hz x hx
    · rw [tr_take l (m + 1) hm hz (.inr h0)]
      refine Ev.step (f := fun k => merinoref01_trim.j1 k l ((m + 1 : Nat) : Int)) (fun k => ?_) ?_
      · simp only [merinoref01_trim.l0]
        rw [if_pos (by omega), e, if_pos (by omega), if_pos (by omega), if_neg (by unfold rd; rw [Int.toNat_natCast]; exact h0)]
      · exact Ev.step (f := fun k => merinoref01_trim.l1 k l ((m + 1 : Nat) : Int) [] 0) (fun k => by simp only [merinoref01_trim.j1]) (copy_ev l (m + 1) hm hl (m + 1) 0 (by omega))
theorem trim_ev {l : List Int} (h : Rng l) (hl : l.length ≤ 1000000) : Ev (fun k => merinoref01_trim.f k l) (dig (val l)) := by
  rw [← tr_dig h]
  exact trim_l0_ev l hl l.length (Nat.le_refl _) (fun x hx => by simp at hx)
theorem whole_ev (neg : Bool) {l : List Int} (h : Rng l) (hl : l.length ≤ 1000000) : Ev (fun k => merinoref01_whole.f k neg l) (neg && decide (0 < val l), dig (val l)) := by
  refine Ev.bind (trim_ev h hl) ?_
  refine Ev.congr (f := fun _ => some (neg && decide (0 < val l), dig (val l))) (fun k => ?_) (Ev.now _)
  have e : decide (((dig (val l)).length : Int) > 0) = decide (0 < val l) := by
    rw [decide_eq_decide]
    have := dig_len0 (n := val l)
    omega
  cases neg with
  | true => rw [if_pos rfl, e, Bool.true_and]
  | false => rw [if_neg (by decide), Bool.false_and]
theorem of_l0_ev (neg : Bool) : ∀ (e : Nat) (x : Int) (out : List Int), Rng out → out.length + e ≤ 20 → -9223372036854775808 ≤ x → x ≤ 9223372036854775807 → x.natAbs < 10000 ^ e →
    Ev (fun k => merinoref01_Of.l0 k x out neg) (neg && decide (0 < val out + 10000 ^ out.length * x.natAbs), dig (val out + 10000 ^ out.length * x.natAbs)) := by
  intro e
  induction e with
  | zero =>
    intro x out h hl _ _ hx
    obtain rfl : x = 0 := by simp at hx; omega
    refine Ev.step (f := fun k => (merinoref01_whole.f k neg out).bind fun bt => some (bt.1, bt.2)) (fun k => by simp only [merinoref01_Of.l0]; rw [if_pos trivial]) ?_
    have := whole_ev neg h (by omega)
    rw [show val out + 10000 ^ out.length * (0 : Int).natAbs = val out by simp]
    exact Ev.bind this (Ev.now _)
  | succ e ih =>
    intro x out h hl h1 h2 hx
    by_cases h0 : x = 0
    · subst h0
      refine Ev.step (f := fun k => (merinoref01_whole.f k neg out).bind fun bt => some (bt.1, bt.2)) (fun k => by simp only [merinoref01_Of.l0]; rw [if_pos trivial]) ?_
      have := whole_ev neg h (by omega)
      rw [show val out + 10000 ^ out.length * (0 : Int).natAbs = val out by simp]
      exact Ev.bind this (Ev.now _)
    · have hd : (Int.tdiv x 10000).natAbs = x.natAbs / 10000 := by rw [Int.natAbs_tdiv]; rfl
      have hm : (Int.tmod x 10000).natAbs = x.natAbs % 10000 := by rw [Int.natAbs_tmod]; rfl
      have hw : wrap64 (Int.tdiv x 10000) = Int.tdiv x 10000 := wrap_id (by omega) (by omega)
      have hlt : (Int.tdiv x 10000).natAbs < 10000 ^ e := by rw [hd]; rw [Nat.pow_succ] at hx; omega
      have key : ∀ d : Int, 0 ≤ d → d.natAbs = x.natAbs % 10000 → val (out ++ [d]) + 10000 ^ (out ++ [d]).length * (Int.tdiv x 10000).natAbs = val out + 10000 ^ out.length * x.natAbs := by
        intro d hd0 hd1
        rw [val_append, List.length_append, List.length_singleton, Nat.pow_succ, hd]
        have e1 : val [d] = x.natAbs % 10000 := by show d.toNat + 10000 * 0 = _; omega
        rw [e1, Nat.mul_assoc, Nat.add_assoc, ← Nat.mul_add, Nat.mod_add_div]
      by_cases hneg : Int.tmod x 10000 < 0
      · have hw2 : wrap64 (-(Int.tmod x 10000)) = -(Int.tmod x 10000) := wrap_id (by omega) (by omega)
        have h3 := ih (Int.tdiv x 10000) (out ++ [-(Int.tmod x 10000)]) (h.append (Rng.one (by omega))) (by rw [List.length_append, List.length_singleton]; omega) (by omega) (by omega) hlt
        rw [key _ (by omega) (by omega)] at h3
        refine Ev.step (f := fun k => merinoref01_Of.l0 k (Int.tdiv x 10000) (out ++ [-(Int.tmod x 10000)]) neg) (fun k => ?_) h3
        simp only [merinoref01_Of.l0]
        rw [if_neg h0, if_pos hneg, if_pos (by omega), hw, hw2]
      · have h3 := ih (Int.tdiv x 10000) (out ++ [Int.tmod x 10000]) (h.append (Rng.one (by omega))) (by rw [List.length_append, List.length_singleton]; omega) (by omega) (by omega) hlt
        rw [key _ (by omega) (by omega)] at h3
        refine Ev.step (f := fun k => merinoref01_Of.l0 k (Int.tdiv x 10000) (out ++ [Int.tmod x 10000]) neg) (fun k => ?_) h3
        simp only [merinoref01_Of.l0]
        rw [if_neg h0, if_neg hneg, if_pos (by omega), hw]
theorem of_ev {x : Int} (h1 : -9223372036854775808 ≤ x) (h2 : x ≤ 9223372036854775807) : Ev (fun k => merinoref01_Of.f k x) (decide (x < 0), dig x.natAbs) := by
  have h := of_l0_ev (decide (x < 0)) 10 x [] Rng_nil (by decide) h1 h2 (by
    have : x.natAbs ≤ 9223372036854775808 := by omega
    exact Nat.lt_of_le_of_lt this (by decide))
  have e : val [] + 10000 ^ ([] : List Int).length * x.natAbs = x.natAbs := by simp [val]
  rw [e] at h
  have e2 : (decide (x < 0) && decide (0 < x.natAbs)) = decide (x < 0) := by
    by_cases hx : x < 0
    · rw [decide_eq_true hx, decide_eq_true (by omega)]; rfl
    · rw [decide_eq_false hx]; rfl
  rw [e2] at h
  exact h
/-! ### Comparing -/
def sg (a b : Nat) : Int := if a < b then -1 else if b < a then 1 else 0
theorem val_cmp {P x y a b : Nat} (ha : a < P) (h : x < y) : a + P * x < b + P * y := by
  have := Nat.mul_le_mul_left P (show x + 1 ≤ y from h)
  rw [Nat.mul_add, Nat.mul_one] at this
  omega
theorem cmp_l0_ev {a b : List Int} (ha : Rng a) (hb : Rng b) (hl : a.length = b.length) (hn : a.length ≤ 1000000) : ∀ (m : Nat), m ≤ a.length → Ev (fun k => merinoref01_cmpD.l0 k a b ((m : Int) - 1)) (sg (val (a.take m)) (val (b.take m))) := by
  intro m
  induction m with
  | zero =>
    intro _
    exact Ev.step (f := fun _ => some (sg (val (a.take 0)) (val (b.take 0)))) (fun k => by simp only [merinoref01_cmpD.l0]; rw [if_neg (by omega)]; rfl) (Ev.now _)
  | succ m ih =>
    intro hm
    have e : (((m + 1 : Nat) : Int) - 1) = (m : Int) := by omega
    rw [e]
    have r1 : rd a (m : Int) = a.getD m 0 := by unfold rd; rw [Int.toNat_natCast]
    have r2 : rd b (m : Int) = b.getD m 0 := by unfold rd; rw [Int.toNat_natCast]
    have g1 := ha.getD m
    have g2 := hb.getD m
    have v1 := val_lt (ha.take m)
    have v2 := val_lt (hb.take m)
    rw [List.length_take, Nat.min_eq_left (by omega)] at v1 v2
    rw [val_take_succ a (by omega), val_take_succ b (by omega)]
    by_cases hlt : a.getD m 0 < b.getD m 0
    · refine Ev.step (f := fun _ => some (-1)) (fun k => ?_) ?_
      · simp only [merinoref01_cmpD.l0]
        rw [if_pos (by omega), if_pos (by omega), if_pos (by omega), if_pos (by omega), if_pos (by rw [r1, r2]; exact hlt)]
      · have := val_cmp (b := val (b.take m)) v1 (show (a.getD m 0).toNat < (b.getD m 0).toNat by omega)
        unfold sg
        rw [if_pos this]
        exact Ev.now _
    · by_cases hgt : b.getD m 0 < a.getD m 0
      · refine Ev.step (f := fun _ => some 1) (fun k => ?_) ?_
        · simp only [merinoref01_cmpD.l0]
          rw [if_pos (by omega), if_pos (by omega), if_pos (by omega), if_pos (by omega), if_neg (by rw [r1, r2]; exact hlt), if_pos (by rw [r1, r2]; exact hgt)]
        · have := val_cmp (b := val (a.take m)) v2 (show (b.getD m 0).toNat < (a.getD m 0).toNat by omega)
          unfold sg
          rw [if_neg (by omega), if_pos this]
          exact Ev.now _
      · have he : a.getD m 0 = b.getD m 0 := by omega
        refine Ev.step (f := fun k => merinoref01_cmpD.l0 k a b ((m : Int) - 1)) (fun k => ?_) ?_
        · simp only [merinoref01_cmpD.l0]
          rw [if_pos (by omega), if_pos (by omega), if_pos (by omega), if_pos (by omega), if_neg (by rw [r1, r2]; exact hlt), if_neg (by rw [r1, r2]; exact hgt), wrap_id (by omega) (by omega)]
        · have h := ih (by omega)
          have e2 : sg (val (a.take m) + 10000 ^ m * (a.getD m 0).toNat) (val (b.take m) + 10000 ^ m * (b.getD m 0).toNat) = sg (val (a.take m)) (val (b.take m)) := by
            rw [he]; unfold sg; simp only [Nat.add_lt_add_iff_right]
          rw [e2]; exact h
theorem cmp_ev (a b : Nat) (ha : a < 10000 ^ 200) (hb : b < 10000 ^ 200) : Ev (fun k => merinoref01_cmpD.f k (dig a) (dig b)) (sg a b) := by
  have l1 := dig_len_lt ha
  have l2 := dig_len_lt hb
  by_cases h1 : (dig a).length < (dig b).length
  · refine Ev.congr (f := fun _ => some (-1)) (fun k => by unfold merinoref01_cmpD.f; rw [if_pos (by omega)]) ?_
    have : a < b := Nat.lt_of_not_le fun h => by have := dig_mono h; omega
    unfold sg; rw [if_pos this]; exact Ev.now _
  · by_cases h2 : (dig b).length < (dig a).length
    · refine Ev.congr (f := fun _ => some 1) (fun k => by unfold merinoref01_cmpD.f; rw [if_neg (by omega), if_pos (by omega)]) ?_
      have : b < a := Nat.lt_of_not_le fun h => by have := dig_mono h; omega
      unfold sg; rw [if_neg (by omega), if_pos this]; exact Ev.now _
    · have h := cmp_l0_ev (Rng_dig a) (Rng_dig b) (by omega) (by omega) (dig a).length (Nat.le_refl _)
      rw [List.take_length, show (dig a).length = (dig b).length by omega, List.take_length, val_dig, val_dig] at h
      refine Ev.congr (fun k => ?_) h
      unfold merinoref01_cmpD.f
      rw [if_neg (by omega), if_neg (by omega), wrap_id (by omega) (by omega), show (dig a).length = (dig b).length by omega]
end Go.Proofs.Ythkfahkkcjagdaa
namespace Go.Proofs.Ythkfahkkcjagdaa
open PClassingBases Go.RowKit Go.Proofs.YthkfahkkcjagdaaW.PrintWords Go.Proofs.YthkfahkkcjagdaaW.PrintMore Go.Proofs.YthkfahkkcjagdaaW.PrintLast

theorem getD_set_ne' {l : List Int} {i j : Nat} (h : i ≠ j) (v : Int) : (l.set i v).getD j 0 = l.getD j 0 := by
  rw [List.getD_eq_getElem?_getD, List.getD_eq_getElem?_getD, List.getElem?_set_ne h]
theorem rd_nat (l : List Int) (i : Nat) : rd l (i : Int) = l.getD i 0 := by unfold rd; rw [Int.toNat_natCast]
theorem ar_mul {V1 V0 R V A B O C X Y Z S1 S2 : Nat} (h1 : V1 + X * O = V0 + X * S2) (hv : V0 + X * C = R + A * V * Z) (hS : O + A * B + C = 10000 * S1 + S2) (hX : X = Z * Y) : V1 + X * 10000 * S1 = R + A * (V + Y * B) * Z := by
  have e5 : X * (O + A * B + C) = X * (10000 * S1 + S2) := by rw [hS]
  have e6 : X * (O + A * B + C) = X * O + X * (A * B) + X * C := by rw [Nat.mul_add, Nat.mul_add]
  have e7 : X * (10000 * S1 + S2) = X * 10000 * S1 + X * S2 := by rw [Nat.mul_add, Nat.mul_assoc]
  have e4 : A * (V + Y * B) * Z = A * V * Z + X * (A * B) := by subst hX; grind
  clear hX hS
  generalize X * (A * B) = t1 at *
  generalize X * O = t2 at *
  generalize X * S2 = t3 at *
  generalize X * C = t4 at *
  generalize A * V * Z = t5 at *
  generalize X * 10000 * S1 = t6 at *
  generalize A * (V + Y * B) * Z = t7 at *
  omega
theorem ar_end {V1 V0 R A B X Z C : Nat} (h1 : V1 + X * 0 = V0 + X * C) (hv : V0 + X * C = R + A * B * Z) (a' : Nat) (ha : a' = A) : V1 = R + Z * a' * B := by
  subst ha
  have e : Z * a' * B = a' * B * Z := by grind
  rw [e, ← hv, ← h1, Nat.mul_zero, Nat.add_zero]
theorem ar_sub {V T T2 W P D B A W2 : Nat} (hv : V + T = T2 + W * P) (e : D + B + W = A + 10000 * W2) : V + P * D + (T + P * B) = T2 + P * A + W2 * (P * 10000) := by
  have e3 : P * (D + B + W) = P * (A + 10000 * W2) := by rw [e]
  have e4 : P * (D + B + W) = P * D + P * B + W * P := by grind
  have e5 : P * (A + 10000 * W2) = P * A + W2 * (P * 10000) := by grind
  generalize P * D = t1 at *
  generalize P * B = t2 at *
  generalize W * P = t3 at *
  generalize P * A = t4 at *
  generalize W2 * (P * 10000) = t5 at *
  omega
theorem ar_add {V T T2 W P S1 S2 A B : Nat} (hv : V + W * P = T + T2) (e : S2 + 10000 * S1 = W + A + B) : V + P * S2 + S1 * (P * 10000) = T + P * A + (T2 + P * B) := by
  have e3 : P * (S2 + 10000 * S1) = P * (W + A + B) := by rw [e]
  have e4 : P * (S2 + 10000 * S1) = P * S2 + S1 * (P * 10000) := by grind
  have e5 : P * (W + A + B) = W * P + P * A + P * B := by grind
  generalize P * S2 = t1 at *
  generalize P * B = t2 at *
  generalize W * P = t3 at *
  generalize P * A = t4 at *
  generalize S1 * (P * 10000) = t5 at *
  omega
theorem ar_bw {V A B P W : Nat} (hv : V + B = A + W * P) (h1 : V < P) (hab : B ≤ A) (hw : W ≤ 1) : V = A - B := by
  rcases (show W = 0 ∨ W = 1 by omega) with rfl | rfl
  · rw [Nat.zero_mul] at hv; omega
  · rw [Nat.one_mul] at hv; omega
/-! ### The product -/
section
variable {a b : List Int}
theorem mul_l1_ev (ha : Rng a) (hb : Rng b) (hl : a.length + b.length ≤ 1000) {i : Nat} (hi : i < a.length) {r : List Int}
    (next : ∀ out, Rng out → out.length = a.length + b.length → val out = val (a.take (i + 1)) * val b → (∀ q, i + 1 + b.length ≤ q → out.getD q 0 = 0) → Ev (fun k => merinoref01_mulD.l0 k a b out ((i + 1 : Nat) : Int)) r) :
    ∀ (e j : Nat) (out : List Int) (c : Int), j + e = b.length → Rng out → out.length = a.length + b.length → (0 ≤ c ∧ c < 10000) → (∀ q, i + b.length ≤ q → out.getD q 0 = 0) →
      val out + 10000 ^ (i + j) * c.toNat = val (a.take i) * val b + (a.getD i 0).toNat * val (b.take j) * 10000 ^ i →
      Ev (fun k => merinoref01_mulD.l1 k a b out (i : Int) c (j : Int)) r := by
  intro e
  induction e with
  | zero =>
    intro j out c hj ho hlo hc hz hv
    have HV := Aside0.mk hv; clear hv
    obtain rfl : j = b.length := by omega
    refine Ev.step (f := fun k => merinoref01_mulD.l0 k a b (out.set (i + b.length) c) ((i + 1 : Nat) : Int)) (fun k => ?_) (next _ (ho.set _ hc) (by rw [List.length_set]; exact hlo) ?_ (fun q hq => by rw [getD_set_ne' (by omega)]; exact hz q (by omega)))
    · simp only [merinoref01_mulD.l1]
      rw [if_neg (by omega), wrap_id (by omega) (by omega), if_pos (by omega), if_pos (by omega), wrap_id (by omega) (by omega), show ((i : Int) + (b.length : Int)).toNat = i + b.length by omega]
      rfl
    · have h1 := val_set out c (i + b.length) (by omega)
      rw [hz (i + b.length) (Nat.le_refl _)] at h1
      have hv := HV.out
      rw [List.take_length] at hv
      rw [val_take_succ a hi, Nat.add_mul]
      exact ar_end h1 hv _ rfl
  | succ e ih =>
    intro j out c hj ho hlo hc hz hv
    have HV := Aside0.mk hv; clear hv
    have go := ho.getD (i + j)
    have ga := ha.getD i
    have gb := hb.getD j
    obtain ⟨O, hO⟩ : ∃ z, z = out.getD (i + j) 0 := ⟨_, rfl⟩
    obtain ⟨A, hA⟩ : ∃ z, z = a.getD i 0 := ⟨_, rfl⟩
    obtain ⟨B, hB⟩ : ∃ z, z = b.getD j 0 := ⟨_, rfl⟩
    rw [← hO] at go
    rw [← hA] at ga
    rw [← hB] at gb
    have hp := Int.mul_le_mul (show A ≤ 9999 by omega) (show B ≤ 9999 by omega) gb.1 (by omega)
    have hp0 := Int.mul_nonneg ga.1 gb.1
    have hw1 : Aside0 (wrap64 (A * B) = A * B) := ⟨wrap_id (by omega) (by omega)⟩
    have hw2 : Aside0 (wrap64 (O + A * B) = O + A * B) := ⟨wrap_id (by omega) (by omega)⟩
    have hw3 : Aside0 (wrap64 (O + A * B + c) = O + A * B + c) := ⟨wrap_id (by omega) (by omega)⟩
    have hm : Int.tmod (O + A * B + c) 10000 = (O + A * B + c) % 10000 := Int.tmod_eq_emod_of_nonneg (by omega)
    have hd : Int.tdiv (O + A * B + c) 10000 = (O + A * B + c) / 10000 := Int.tdiv_eq_ediv_of_nonneg (by omega)
    have hw4 : Aside0 (wrap64 ((O + A * B + c) / 10000) = (O + A * B + c) / 10000) := ⟨wrap_id (by omega) (by omega)⟩
    refine Ev.step (f := fun k => merinoref01_mulD.l1 k a b (out.set (i + j) ((O + A * B + c) % 10000)) (i : Int) ((O + A * B + c) / 10000) ((j + 1 : Nat) : Int)) (fun k => ?_) (ih (j + 1) _ _ (by omega) (ho.set _ (by omega)) (by rw [List.length_set]; exact hlo) (by omega) (fun q hq => by rw [getD_set_ne' (by omega)]; exact hz q hq) ?_)
    · simp only [merinoref01_mulD.l1]
      rw [if_pos (by omega), wrap_id (x := (i : Int) + j) (by omega) (by omega), if_pos (by omega), if_pos (by omega), if_pos (by omega), if_pos (by omega), if_pos (by omega), wrap_id (x := (j : Int) + 1) (by omega) (by omega)]
      rw [show ((i : Int) + (j : Int)) = ((i + j : Nat) : Int) by omega, rd_nat, rd_nat, rd_nat, ← hO, ← hA, ← hB, hw1.out, hw2.out, hw3.out, hm, hd, hw4.out, Int.toNat_natCast]
      rfl
    · have h1 := val_set out ((O + A * B + c) % 10000) (i + j) (by omega)
      rw [← hO] at h1
      have hS : O.toNat + A.toNat * B.toNat + c.toNat = 10000 * ((O + A * B + c) / 10000).toNat + ((O + A * B + c) % 10000).toNat := by
        have e1 : (A * B).toNat = A.toNat * B.toNat := Int.toNat_mul ga.1 gb.1
        rw [← e1]
        clear h1 HV
        omega
      have hv := HV.out
      rw [← hA] at hv
      rw [val_take_succ b (by clear h1 hv HV; omega), ← hB, ← hA, show i + (j + 1) = i + j + 1 from rfl, Nat.pow_succ]
      exact ar_mul h1 hv hS (Nat.pow_add _ _ _)
theorem mul_l0_ev (ha : Rng a) (hb : Rng b) (hl : a.length + b.length ≤ 1000) : ∀ (e i : Nat) (out : List Int), i + e = a.length → Rng out → out.length = a.length + b.length → val out = val (a.take i) * val b → (∀ q, i + b.length ≤ q → out.getD q 0 = 0) →
    Ev (fun k => merinoref01_mulD.l0 k a b out (i : Int)) (dig (val a * val b)) := by
  intro e
  induction e with
  | zero =>
    intro i out hi ho hlo hv _
    obtain rfl : i = a.length := by omega
    rw [List.take_length] at hv
    rw [← hv]
    refine Ev.step (f := fun k => (merinoref01_trim.f k out).bind fun t => some t) (fun k => by simp only [merinoref01_mulD.l0]; rw [if_neg (by omega)]) ?_
    exact Ev.bind (trim_ev ho (by omega)) (Ev.now _)
  | succ e ih =>
    intro i out hi ho hlo hv hz
    refine Ev.step (f := fun k => merinoref01_mulD.l1 k a b out (i : Int) 0 ((0 : Nat) : Int)) (fun k => by simp only [merinoref01_mulD.l0]; rw [if_pos (by omega)]; rfl) ?_
    exact mul_l1_ev ha hb hl (by omega) (fun out' h1 h2 h3 h4 => ih (i + 1) out' (by omega) h1 h2 h3 h4) b.length 0 out 0 (by omega) ho hlo (by omega) hz (by rw [hv]; simp [val])
theorem mul_ev (ha : Rng a) (hb : Rng b) (hl : a.length + b.length ≤ 1000) : Ev (fun k => merinoref01_mulD.f k a b) (dig (val a * val b)) := by
  have h := mul_l0_ev ha hb hl a.length 0 (List.replicate (a.length + b.length) 0) (by omega) (Rng_zeros _) (by simp) (by rw [val_zeros]; simp [val]) (fun q _ => by
    rw [List.getD_eq_getElem?_getD, List.getElem?_replicate]; split <;> rfl)
  refine Ev.congr (fun k => ?_) h
  unfold merinoref01_mulD.f
  rw [wrap_id (by omega) (by omega), if_pos (by omega), if_pos (by omega), show ((a.length : Int) + (b.length : Int)).toNat = a.length + b.length by omega]
  rfl
/-! ### The difference -/
theorem sub_l0_ev (ha : Rng a) (hb : Rng b) (hl : a.length ≤ 1000) (hlb : b.length ≤ a.length) (hab : val b ≤ val a) : ∀ (e j : Nat) (out : List Int) (w : Nat), j + e = a.length → Rng out → out.length = j → w ≤ 1 → val out + val (b.take j) = val (a.take j) + w * 10000 ^ j →
    Ev (fun k => merinoref01_subD.l0 k a b out (w : Int) (j : Int)) (dig (val a - val b)) := by
  intro e
  induction e with
  | zero =>
    intro j out w hj ho hlo hw hv
    have HV := Aside0.mk hv; clear hv
    obtain rfl : j = a.length := by omega
    have hv := HV.out
    rw [List.take_length, List.take_of_length_le hlb] at hv
    have h1 := val_lt ho
    rw [hlo] at h1
    have hv2 : val out = val a - val b := ar_bw hv h1 hab hw
    clear hv h1 HV
    rw [← hv2]
    refine Ev.step (f := fun k => (merinoref01_trim.f k out).bind fun t => some t) (fun k => by simp only [merinoref01_subD.l0]; rw [if_neg (by omega)]) ?_
    exact Ev.bind (trim_ev ho (by omega)) (Ev.now _)
  | succ e ih =>
    intro j out w hj ho hlo hw hv
    have HV := Aside0.mk hv; clear hv
    have ga := ha.getD j
    have gb := hb.getD j
    have hta := val_take_succ a (show j < a.length by omega)
    obtain ⟨A, hA⟩ : ∃ z, z = a.getD j 0 := ⟨_, rfl⟩
    obtain ⟨B, hB⟩ : ∃ z, z = b.getD j 0 := ⟨_, rfl⟩
    rw [← hA] at ga hta
    rw [← hB] at gb
    have HTA := Aside0.mk hta; clear hta
    have htb : val (b.take (j + 1)) = val (b.take j) + 10000 ^ j * B.toNat := by
      by_cases h : j < b.length
      · rw [val_take_succ b h, ← hB]
      · have : B = 0 := by rw [hB, List.getD_eq_getElem?_getD, List.getElem?_eq_none (by omega)]; rfl
        rw [List.take_of_length_le (by omega), List.take_of_length_le (by omega), this]
        simp
    have HTB := Aside0.mk htb; clear htb
    have key : ∀ (d : Int) (w' : Nat), 0 ≤ d → d < 10000 → w' ≤ 1 → d + B + w = A + 10000 * w' → val (out ++ [d]) + val (b.take (j + 1)) = val (a.take (j + 1)) + w' * 10000 ^ (j + 1) := by
      intro d w' hd0 hd1 hw' he
      have e1 : val [d] = d.toNat := by show d.toNat + 10000 * 0 = _; omega
      have e2 : d.toNat + B.toNat + w = A.toNat + 10000 * w' := by omega
      rw [val_append, hlo, HTB.out, HTA.out, e1, Nat.pow_succ]
      exact ar_sub HV.out e2
    have KEY := Aside0.mk key; clear key
    have r1 : rd a (j : Int) = A := by rw [rd_nat, hA]
    have r2 : rd b (j : Int) = B := by rw [rd_nat, hB]
    have hw1 : Aside0 (wrap64 (A - w) = A - w) := ⟨wrap_id (by omega) (by omega)⟩
    have hw2 : Aside0 (wrap64 (A - w - B) = A - w - B) := ⟨wrap_id (by omega) (by omega)⟩
    have hw3 : Aside0 (wrap64 (A - w - B + 10000) = A - w - B + 10000) := ⟨wrap_id (by omega) (by omega)⟩
    have hw5 : Aside0 (wrap64 (A - w + 10000) = A - w + 10000) := ⟨wrap_id (by omega) (by omega)⟩
    have hw4 : Aside0 (wrap64 ((j : Int) + 1) = ((j + 1 : Nat) : Int)) := ⟨by rw [wrap_id (by omega) (by omega)]; rfl⟩
    by_cases hjb : j < b.length
    · by_cases hneg : A - w - B < 0
      · refine Ev.step (f := fun k => merinoref01_subD.l0 k a b (out ++ [A - w - B + 10000]) ((1 : Nat) : Int) ((j + 1 : Nat) : Int)) (fun k => ?_) (ih (j + 1) _ 1 (by omega) (ho.append (Rng.one (by omega))) (by rw [List.length_append, hlo]; rfl) (by omega) (KEY.out _ 1 (by omega) (by omega) (by omega) (by omega)))
        simp only [merinoref01_subD.l0]
        rw [if_pos (by omega), if_pos (by omega), if_pos (by omega), r1, r2, hw1.out, hw2.out, if_pos hneg, if_pos (by omega), hw3.out, hw4.out]
        rfl
      · refine Ev.step (f := fun k => merinoref01_subD.l0 k a b (out ++ [A - w - B]) ((0 : Nat) : Int) ((j + 1 : Nat) : Int)) (fun k => ?_) (ih (j + 1) _ 0 (by omega) (ho.append (Rng.one (by omega))) (by rw [List.length_append, hlo]; rfl) (by omega) (KEY.out _ 0 (by omega) (by omega) (by omega) (by omega)))
        simp only [merinoref01_subD.l0]
        rw [if_pos (by omega), if_pos (by omega), if_pos (by omega), r1, r2, hw1.out, hw2.out, if_neg hneg, if_pos (by omega), hw4.out]
        rfl
    · have hB0 : B = 0 := by rw [hB, List.getD_eq_getElem?_getD, List.getElem?_eq_none (by omega)]; rfl
      by_cases hneg : A - w < 0
      · refine Ev.step (f := fun k => merinoref01_subD.l0 k a b (out ++ [A - w + 10000]) ((1 : Nat) : Int) ((j + 1 : Nat) : Int)) (fun k => ?_) (ih (j + 1) _ 1 (by omega) (ho.append (Rng.one (by omega))) (by rw [List.length_append, hlo]; rfl) (by omega) (KEY.out _ 1 (by omega) (by omega) (by omega) (by omega)))
        simp only [merinoref01_subD.l0]
        rw [if_pos (by omega), if_pos (by omega), if_neg (by omega), r1, hw1.out, if_pos hneg, if_pos (by omega), hw5.out, hw4.out]
        rfl
      · refine Ev.step (f := fun k => merinoref01_subD.l0 k a b (out ++ [A - w]) ((0 : Nat) : Int) ((j + 1 : Nat) : Int)) (fun k => ?_) (ih (j + 1) _ 0 (by omega) (ho.append (Rng.one (by omega))) (by rw [List.length_append, hlo]; rfl) (by omega) (KEY.out _ 0 (by omega) (by omega) (by omega) (by omega)))
        simp only [merinoref01_subD.l0]
        rw [if_pos (by omega), if_pos (by omega), if_neg (by omega), r1, hw1.out, if_neg hneg, if_pos (by omega), hw4.out]
        rfl
theorem sub_ev (ha : Rng a) (hb : Rng b) (hl : a.length ≤ 1000) (hlb : b.length ≤ a.length) (hab : val b ≤ val a) : Ev (fun k => merinoref01_subD.f k a b) (dig (val a - val b)) :=
  sub_l0_ev ha hb hl hlb hab a.length 0 [] 0 (by omega) Rng_nil rfl (by omega) (by simp [val])
/-! ### The sum -/
theorem add_l0_ev (ha : Rng a) (hb : Rng b) (hl : a.length ≤ 1000) (hlb : b.length ≤ 1000) : ∀ (e j : Nat) (out : List Int) (w : Nat), max a.length b.length + 1 = j + e → Rng out → out.length = j → w ≤ 1 → (e = 0 → w = 0) → val out + w * 10000 ^ j = val (a.take j) + val (b.take j) →
    ∃ l, Ev (fun k => merinoref01_addD.l0 k a b out (w : Int) (j : Int)) l ∧ Rng l ∧ val l = val a + val b ∧ l.length ≤ 1001 := by
  intro e
  induction e with
  | zero =>
    intro j out w hj ho hlo hw hw0 hv
    obtain rfl := hw0 rfl
    rw [Nat.zero_mul, Nat.add_zero] at hv
    rw [List.take_of_length_le (by omega), List.take_of_length_le (by omega)] at hv
    refine ⟨out, ?_, ho, by omega, by omega⟩
    refine Ev.step (f := fun k => merinoref01_addD.j1 k a b out ((0 : Nat) : Int) (j : Int) (decide (((0 : Nat) : Int) > 0))) (fun k => by simp only [merinoref01_addD.l0]; rw [if_neg (by omega), if_neg (by omega)]) ?_
    exact Ev.step (f := fun _ => some out) (fun k => by simp only [merinoref01_addD.j1]; rw [if_neg (by simp)]) (Ev.now _)
  | succ e ih =>
    intro j out w hj ho hlo hw hw0 hv
    have HV := Aside0.mk hv; clear hv
    by_cases hend : ¬ j < a.length ∧ ¬ j < b.length ∧ w = 0
    · obtain ⟨h1, h2, rfl⟩ := hend
      have hv := HV.out
      rw [Nat.zero_mul, Nat.add_zero] at hv
      rw [List.take_of_length_le (by omega), List.take_of_length_le (by omega)] at hv
      refine ⟨out, ?_, ho, by omega, by omega⟩
      refine Ev.step (f := fun k => merinoref01_addD.j1 k a b out ((0 : Nat) : Int) (j : Int) (decide (((0 : Nat) : Int) > 0))) (fun k => by simp only [merinoref01_addD.l0]; rw [if_neg (by omega), if_neg (by omega)]) ?_
      exact Ev.step (f := fun _ => some out) (fun k => by simp only [merinoref01_addD.j1]; rw [if_neg (by simp)]) (Ev.now _)
    · have ga := ha.getD j
      have gb := hb.getD j
      obtain ⟨A, hA⟩ : ∃ z, z = a.getD j 0 := ⟨_, rfl⟩
      obtain ⟨B, hB⟩ : ∃ z, z = b.getD j 0 := ⟨_, rfl⟩
      rw [← hA] at ga
      rw [← hB] at gb
      have tk : ∀ (l : List Int) (z : Int), z = l.getD j 0 → val (l.take (j + 1)) = val (l.take j) + 10000 ^ j * z.toNat := by
        intro l z hz
        by_cases h : j < l.length
        · rw [val_take_succ l h, ← hz]
        · have : z = 0 := by rw [hz, List.getD_eq_getElem?_getD, List.getElem?_eq_none (by omega)]; rfl
          rw [List.take_of_length_le (by omega), List.take_of_length_le (by omega), this]
          simp
      have hz : ∀ l : List Int, ¬ j < l.length → l.getD j 0 = 0 := fun l h => by rw [List.getD_eq_getElem?_getD, List.getElem?_eq_none (by omega)]; rfl
      have HTA := Aside0.mk (tk a A hA)
      have HTB := Aside0.mk (tk b B hB)
      clear tk
      have hsum : val (out ++ [(w + A + B) % 10000]) + (((w : Int) + A + B) / 10000).toNat * 10000 ^ (j + 1) = val (a.take (j + 1)) + val (b.take (j + 1)) := by
        have e1 : val [((w : Int) + A + B) % 10000] = (((w : Int) + A + B) % 10000).toNat := by show _ + 10000 * 0 = _; omega
        have e2 : (((w : Int) + A + B) % 10000).toNat + 10000 * (((w : Int) + A + B) / 10000).toNat = w + A.toNat + B.toNat := by omega
        rw [val_append, hlo, HTA.out, HTB.out, e1, Nat.pow_succ]
        exact ar_add HV.out e2
      have HSUM := Aside0.mk hsum; clear hsum
      have hnext := ih (j + 1) (out ++ [((w : Int) + A + B) % 10000]) (((w : Int) + A + B) / 10000).toNat (by omega) (ho.append (Rng.one (by omega))) (by rw [List.length_append, hlo]; rfl) (by omega) (fun h0 => by
        have h1 := hz a (by omega)
        have h2 := hz b (by omega)
        omega) HSUM.out
      obtain ⟨l, hl1, hl2, hl3, hl4⟩ := hnext
      refine ⟨l, ?_, hl2, hl3, hl4⟩
      have hc : ((((w : Int) + A + B) / 10000).toNat : Int) = ((w : Int) + A + B) / 10000 := by omega
      rw [hc] at hl1
      have r1 : rd a (j : Int) = A := by rw [rd_nat, hA]
      have r2 : rd b (j : Int) = B := by rw [rd_nat, hB]
      have hw4 : Aside0 (wrap64 ((j : Int) + 1) = ((j + 1 : Nat) : Int)) := ⟨by rw [wrap_id (by omega) (by omega)]; rfl⟩
      have step : Ev (fun k => merinoref01_addD.j1 k a b out (w : Int) (j : Int) true) l := by
        refine Ev.step (f := fun k => merinoref01_addD.l0 k a b (out ++ [((w : Int) + A + B) % 10000]) (((w : Int) + A + B) / 10000) ((j + 1 : Nat) : Int)) (fun k => ?_) hl1
        have w1 : Aside0 (wrap64 ((w : Int) + A) = w + A) := ⟨wrap_id (by omega) (by omega)⟩
        have w2 : Aside0 (wrap64 ((w : Int) + A + B) = w + A + B) := ⟨wrap_id (by omega) (by omega)⟩
        have w3 : Aside0 (wrap64 ((w : Int) + B) = w + B) := ⟨wrap_id (by omega) (by omega)⟩
        have m1 : ∀ x : Int, 0 ≤ x → Int.tmod x 10000 = x % 10000 := fun x h => Int.tmod_eq_emod_of_nonneg h
        have m2 : ∀ x : Int, 0 ≤ x → x ≤ 30000 → wrap64 (Int.tdiv x 10000) = x / 10000 := fun x h h2 => by rw [Int.tdiv_eq_ediv_of_nonneg h]; exact wrap_id (by omega) (by omega)
        simp only [merinoref01_addD.j1]
        rw [if_pos trivial]
        by_cases h1 : j < a.length
        · rw [if_pos (by omega), if_pos (by omega)]
          by_cases h2 : j < b.length
          · rw [if_pos (by omega), if_pos (by omega), r1, r2, w1.out, w2.out, m1 _ (by omega), m2 _ (by omega) (by omega), hw4.out]
          · have hB0 : B = 0 := by rw [hB]; exact hz b h2
            rw [if_neg (by omega), if_pos (by omega), r1, w1.out, m1 _ (by omega), m2 _ (by omega) (by omega), hw4.out, hB0, Int.add_zero]
        · have hA0 : A = 0 := by rw [hA]; exact hz a h1
          rw [if_neg (by omega)]
          by_cases h2 : j < b.length
          · rw [if_pos (by omega), if_pos (by omega), if_pos (by omega), r2, w3.out, m1 _ (by omega), m2 _ (by omega) (by omega), hw4.out, hA0, Int.add_zero]
          · have hB0 : B = 0 := by rw [hB]; exact hz b h2
            rw [if_neg (by omega), if_pos (by omega), m1 _ (by omega), m2 _ (by omega) (by omega), hw4.out, hA0, hB0, Int.add_zero, Int.add_zero]
      refine Ev.step (f := fun k => merinoref01_addD.j1 k a b out (w : Int) (j : Int) true) (fun k => ?_) step
      simp only [merinoref01_addD.l0]
      by_cases h1 : j < a.length
      · rw [if_pos (by omega)]
      · rw [if_neg (by omega)]
        by_cases h2 : j < b.length
        · rw [if_pos (by omega)]
        · rw [if_neg (by omega), decide_eq_true (show (w : Int) > 0 by omega)]
theorem add_ev (ha : Rng a) (hb : Rng b) (hl : a.length ≤ 1000) (hlb : b.length ≤ 1000) : ∃ l, Ev (fun k => merinoref01_addD.f k a b) l ∧ Rng l ∧ val l = val a + val b ∧ l.length ≤ 1001 :=
  add_l0_ev ha hb hl hlb (max a.length b.length + 1) 0 [] 0 (by omega) Rng_nil rfl (by omega) (by omega) (by simp [val])
end
end Go.Proofs.Ythkfahkkcjagdaa
namespace Go.Proofs.Ythkfahkkcjagdaa
open PClassingBases Go.RowKit Go.Proofs.YthkfahkkcjagdaaW.PrintWords Go.Proofs.YthkfahkkcjagdaaW.PrintMore Go.Proofs.YthkfahkkcjagdaaW.PrintLast

/-- Small enough: at most so many digits. -/
def Sm (n : Nat) : Prop := (dig n).length ≤ 100
theorem Sm.of_le {a b : Nat} (h : a ≤ b) (hb : Sm b) : Sm a := Nat.le_trans (dig_mono h) hb
theorem Sm.lt {n : Nat} (h : Sm n) : n < 10000 ^ 100 := by
  have h1 := val_lt (Rng_dig n)
  rw [val_dig] at h1
  exact Nat.lt_of_lt_of_le h1 (Nat.pow_le_pow_right (by decide) h)
theorem dig_len_mul {n : Nat} (h : (dig n).length ≤ 100) {m : Nat} (hm : m < 10000 * (n + 1)) : (dig m).length ≤ 101 := by
  refine dig_len_lt ?_
  have h1 := Sm.lt h
  rw [Nat.pow_succ]
  generalize 10000 ^ 100 = P at *
  omega
theorem lt_big {m : Nat} (h : (dig m).length ≤ 102) : m < 10000 ^ 200 := by
  have h1 := val_lt (Rng_dig m)
  rw [val_dig] at h1
  have h2 : (dig m).length ≤ 200 := Nat.le_trans h (by decide)
  exact Nat.lt_of_lt_of_le h1 (Nat.pow_le_pow_right (by decide) h2)
theorem one_dig {m : Int} (_ : 0 ≤ m) (_ : m < 10000) : val [m] = m.toNat := by show m.toNat + 10000 * 0 = _; omega
/-- One digit of the quotient, by halving. -/
theorem div_l1_ev {a q : List Int} {B R i : Nat} {r : List Int × List Int} (_ : 0 < B) (hBs : Sm B) (hR : R < 10000 * B) (hi : i < q.length) (hq : q.length ≤ 1000)
    (next : ∀ d : Nat, d < 10000 → B * d ≤ R → R < B * (d + 1) → Ev (fun k => merinoref01_divD.l0 k a (dig B) (q.set i d) (dig (R - B * d)) (((i : Nat) : Int) - 1)) r) :
    ∀ (e lo hi : Nat), lo + e = hi → hi ≤ 9999 → B * lo ≤ R → R < B * (hi + 1) → Ev (fun k => merinoref01_divD.l1 k a (dig B) q (dig R) (i : Int) (lo : Int) (hi : Int)) r := by
  have hRl : (dig R).length ≤ 101 := dig_len_mul hBs (by omega)
  intro e
  induction e using Nat.strongRecOn with
  | _ e ih =>
    intro lo hi' hlh hh h1 h2
    have H2 := Aside0.mk h2; clear h2
    have H1 := Aside0.mk h1; clear h1
    by_cases h0 : lo < hi'
    · obtain ⟨mid, hmid⟩ : ∃ m, m = (lo + hi' + 1) / 2 := ⟨_, rfl⟩
      have hm1 : lo < mid ∧ mid ≤ hi' := by omega
      have hw : Aside0 (wrap64 (Int.tdiv (wrap64 (wrap64 ((lo : Int) + hi') + 1)) 2) = (mid : Int)) := ⟨by
        rw [wrap_id (x := (lo : Int) + hi') (by omega) (by omega), wrap_id (x := (lo : Int) + hi' + 1) (by omega) (by omega), Int.tdiv_eq_ediv_of_nonneg (by omega), wrap_id (by omega) (by omega)]
        omega⟩
      have hw2 : Aside0 (wrap64 ((mid : Int) - 1) = ((mid - 1 : Nat) : Int)) := ⟨by rw [wrap_id (by omega) (by omega)]; omega⟩
      have ht : Ev (fun k => merinoref01_trim.f k [(mid : Int)]) (dig mid) := by
        have := trim_ev (Rng.one (d := (mid : Int)) (by omega)) (by simp)
        rwa [one_dig (by omega) (by omega), Int.toNat_natCast] at this
      have hml : (dig mid).length ≤ 1 := dig_len_lt (by omega)
      have hbl : (dig B).length ≤ 100 := hBs
      have hmu : Ev (fun k => merinoref01_mulD.f k (dig B) (dig mid)) (dig (B * mid)) := by
        have := mul_ev (Rng_dig B) (Rng_dig mid) (by omega)
        rwa [val_dig, val_dig] at this
      have hbm : B * mid < 10000 * (B + 1) := by
        have := Nat.mul_le_mul_left B (show mid ≤ 9999 by omega)
        omega
      have hcm := cmp_ev (B * mid) R (lt_big (Nat.le_trans (dig_len_mul hBs hbm) (by omega))) (lt_big (by omega))
      refine Ev.step (f := fun k => (merinoref01_trim.f k [(mid : Int)]).bind fun t218 => ((merinoref01_mulD.f k (dig B) t218).bind fun t221 => ((merinoref01_cmpD.f k t221 (dig R)).bind fun t224 => (if t224 ≤ 0 then (merinoref01_divD.l1 k a (dig B) q (dig R) (i : Int) (mid : Int) (hi' : Int)) else (merinoref01_divD.l1 k a (dig B) q (dig R) (i : Int) (lo : Int) ((mid - 1 : Nat) : Int)))))) (fun k => ?_) ?_
      · simp only [merinoref01_divD.l1]
        rw [if_pos (by omega), hw.out, hw2.out]
      · refine Ev.bind ht (Ev.bind hmu (Ev.bind hcm ?_))
        by_cases hc : B * mid ≤ R
        · refine Ev.congr (f := fun k => merinoref01_divD.l1 k a (dig B) q (dig R) (i : Int) (mid : Int) (hi' : Int)) (fun k => ?_) (ih (hi' - mid) (by omega) mid hi' (by omega) hh hc H2.out)
          rw [if_pos (by unfold sg; split; · decide
                         · rw [if_neg (by omega)]; decide)]
        · refine Ev.congr (f := fun k => merinoref01_divD.l1 k a (dig B) q (dig R) (i : Int) (lo : Int) ((mid - 1 : Nat) : Int)) (fun k => ?_) (ih (mid - 1 - lo) (by omega) lo (mid - 1) (by omega) (by omega) H1.out (by rw [show mid - 1 + 1 = mid by omega]; omega))
          rw [if_neg (by unfold sg; rw [if_neg (by omega), if_pos (by omega)]; decide)]
    · obtain rfl : lo = hi' := by omega
      have ht : Ev (fun k => merinoref01_trim.f k [(lo : Int)]) (dig lo) := by
        have := trim_ev (Rng.one (d := (lo : Int)) (by omega)) (by simp)
        rwa [one_dig (by omega) (by omega), Int.toNat_natCast] at this
      have hml : (dig lo).length ≤ 1 := dig_len_lt (by omega)
      have hbl : (dig B).length ≤ 100 := hBs
      have hmu : Ev (fun k => merinoref01_mulD.f k (dig B) (dig lo)) (dig (B * lo)) := by
        have := mul_ev (Rng_dig B) (Rng_dig lo) (by omega)
        rwa [val_dig, val_dig] at this
      have hsu : Ev (fun k => merinoref01_subD.f k (dig R) (dig (B * lo))) (dig (R - B * lo)) := by
        have := sub_ev (Rng_dig R) (Rng_dig (B * lo)) (by omega) (dig_mono H1.out) (by rw [val_dig, val_dig]; exact H1.out)
        rwa [val_dig, val_dig] at this
      have hw2 : Aside0 (wrap64 ((i : Int) - 1) = (i : Int) - 1) := ⟨wrap_id (by omega) (by omega)⟩
      refine Ev.step (f := fun k => (merinoref01_trim.f k [(lo : Int)]).bind fun t206 => ((merinoref01_mulD.f k (dig B) t206).bind fun t209 => ((merinoref01_subD.f k (dig R) t209).bind fun t212 => (merinoref01_divD.l0 k a (dig B) (q.set i (lo : Int)) t212 ((i : Int) - 1))))) (fun k => ?_) ?_
      · simp only [merinoref01_divD.l1]
        rw [if_neg (by omega), if_pos (by omega), if_pos (by omega), hw2.out, Int.toNat_natCast]
      · exact Ev.bind ht (Ev.bind hmu (Ev.bind hsu (next lo (by omega) H1.out H2.out)))
theorem ar_div {V V1 B X D d R rm A : Nat} (h : V * B + rm * (X * 10000) = D * (X * 10000)) (hv : V1 = V + X * d) (hR : R = A + 10000 * rm) (hd : B * d ≤ R) : V1 * B + (R - B * d) * X = (A + 10000 * D) * X := by
  subst hv
  have e1 : (V + X * d) * B = V * B + X * (B * d) := by grind
  have e2 : (R - B * d) * X + X * (B * d) = R * X := by
    rw [Nat.mul_comm X, ← Nat.add_mul, Nat.sub_add_cancel hd]
  have e3 : R * X = A * X + rm * (X * 10000) := by subst hR; grind
  have e4 : (A + 10000 * D) * X = A * X + D * (X * 10000) := by grind
  rw [e1, e4]
  generalize (R - B * d) * X = t1 at *
  generalize X * (B * d) = t2 at *
  generalize rm * (X * 10000) = t3 at *
  generalize D * (X * 10000) = t4 at *
  generalize A * X = t5 at *
  generalize V * B = t6 at *
  omega
theorem val_drop_step (a : List Int) {i : Nat} (h : i < a.length) : val (a.drop i) = (a.getD i 0).toNat + 10000 * val (a.drop (i + 1)) := by
  rw [List.drop_eq_getElem_cons h, List.getD_eq_getElem?_getD, List.getElem?_eq_getElem h]
  rfl
theorem div_l0_ev {a : List Int} {B : Nat} (ha : Rng a) (hal : a.length ≤ 1000) (hB : 0 < B) (hBs : Sm B) : ∀ (m : Nat) (q : List Int) (rm : Nat), m ≤ a.length → Rng q → q.length = a.length → (∀ j, j < m → q.getD j 0 = 0) → rm < B → val q * B + rm * 10000 ^ m = val (a.drop m) * 10000 ^ m →
    Ev (fun k => merinoref01_divD.l0 k a (dig B) q (dig rm) ((m : Int) - 1)) (dig (val a / B), dig (val a % B)) := by
  intro m
  induction m with
  | zero =>
    intro q rm hm hq hql hz hrm hv
    have h1 : val a / B = val q ∧ val a % B = rm := (Nat.div_mod_unique hB).2 ⟨by
      rw [Nat.pow_zero, Nat.mul_one, Nat.mul_one, List.drop_zero] at hv
      rw [← hv, Nat.mul_comm B]; omega, hrm⟩
    rw [h1.1, h1.2]
    refine Ev.step (f := fun k => (merinoref01_trim.f k q).bind fun t189 => some (t189, dig rm)) (fun k => ?_) ?_
    · simp only [merinoref01_divD.l0]
      rw [if_neg (by omega)]
    · exact Ev.bind (trim_ev hq (by omega)) (Ev.now _)
  | succ m ih =>
    intro q rm hm hq hql hz hrm hv
    have HV := Aside0.mk hv; clear hv
    have ga := ha.getD m
    obtain ⟨A, hA⟩ : ∃ z, z = a.getD m 0 := ⟨_, rfl⟩
    rw [← hA] at ga
    obtain ⟨R, hR⟩ : ∃ z, z = A.toNat + 10000 * rm := ⟨_, rfl⟩
    have hRB : R < 10000 * B := by omega
    have hrl : (dig rm).length ≤ 100 := Nat.le_trans (dig_mono (Nat.le_of_lt hrm)) hBs
    have ht : Ev (fun k => merinoref01_trim.f k ([A] ++ dig rm)) (dig R) := by
      have := trim_ev (Rng.append (Rng.one (d := A) ga) (Rng_dig rm)) (by rw [List.length_append, List.length_singleton]; omega)
      have e : val ([A] ++ dig rm) = R := by
        show A.toNat + 10000 * val (dig rm) = R
        rw [val_dig, hR]
      rwa [e] at this
    have key := div_l1_ev (a := a) (q := q) (B := B) (R := R) (i := m) (r := (dig (val a / B), dig (val a % B))) hB hBs hRB (by omega) (by omega) (fun d hd h1 h2 => by
      refine ih (q.set m d) (R - B * d) (by omega) (hq.set _ (by omega)) (by rw [List.length_set]; exact hql) (fun j hj => by rw [getD_set_ne' (by omega)]; exact hz j (by omega)) (by
        rw [Nat.mul_succ] at h2
        omega) ?_
      have h3 := val_set q (d : Int) m (by omega)
      rw [hz m (by omega), Int.toNat_natCast] at h3
      have hv := HV.out
      rw [Nat.pow_succ] at hv
      rw [val_drop_step a (by omega), ← hA]
      exact ar_div hv (by simpa using h3) hR h1) 9999 0 9999 (by omega) (by omega) (by omega) (by
        rw [Nat.mul_comm]; exact hRB)
    refine Ev.step (f := fun k => (merinoref01_trim.f k ([A] ++ dig rm)).bind fun t199 => (merinoref01_divD.l1 k a (dig B) q t199 ((m : Nat) : Int) 0 9999)) (fun k => ?_) ?_
    · simp only [merinoref01_divD.l0]
      have r1 : rd a (((m + 1 : Nat) : Int) - 1) = A := by rw [show (((m + 1 : Nat) : Int) - 1) = (m : Int) by omega, rd_nat, hA]
      rw [if_pos (by omega), if_pos (by omega), if_pos (by omega), r1]
      simp only [Option.bind_some, List.length_cons, List.length_nil]
      rw [if_pos (by omega), show (((m + 1 : Nat) : Int) - 1) = (m : Int) by omega]
    · exact Ev.bind ht key
theorem div_ev (a B : Nat) (ha : Sm a) (hB : 0 < B) (hBs : Sm B) : Ev (fun k => merinoref01_divD.f k (dig a) (dig B)) (dig (a / B), dig (a % B)) := by
  have hl : (dig a).length ≤ 100 := ha
  have h := div_l0_ev (a := dig a) (B := B) (Rng_dig a) (by omega) hB hBs (dig a).length (List.replicate (dig a).length 0) 0 (Nat.le_refl _) (Rng_zeros _) (by simp) (fun j _ => by
    rw [List.getD_eq_getElem?_getD, List.getElem?_replicate]; split <;> rfl) hB (by rw [val_zeros, List.drop_of_length_le (Nat.le_refl _)]; simp [val])
  rw [val_dig, dig_zero] at h
  have hbl : ¬ (dig B).length = 0 := by rw [dig_len0]; omega
  refine Ev.congr (fun k => ?_) h
  unfold merinoref01_divD.f
  rw [if_neg (by omega), if_pos (by omega), if_pos (by omega), wrap_id (by omega) (by omega)]
  rfl
theorem gcd_l0_ev : ∀ (b a : Nat), Sm a → Sm b → Ev (fun k => merinoref01_gcdD.l0 k (dig a) (dig b)) (dig (Nat.gcd a b)) := by
  intro b
  induction b using Nat.strongRecOn with
  | _ b ih =>
    intro a ha hb
    by_cases h0 : b = 0
    · subst h0
      rw [Nat.gcd_zero_right]
      exact Ev.step (f := fun _ => some (dig a)) (fun k => by simp only [merinoref01_gcdD.l0]; rw [dig_zero]; rfl) (Ev.now _)
    · have hpos : 0 < b := by omega
      have hbl : ¬ (dig b).length = 0 := by rw [dig_len0]; omega
      have h1 := ih (a % b) (Nat.mod_lt _ hpos) b hb (Sm.of_le (Nat.le_of_lt (Nat.mod_lt _ hpos)) hb)
      have e : Nat.gcd a b = Nat.gcd b (a % b) := by rw [Nat.gcd_comm a b, Nat.gcd_rec b a, Nat.gcd_comm]
      rw [e]
      refine Ev.step (f := fun k => (merinoref01_divD.f k (dig a) (dig b)).bind fun bt225 => (merinoref01_gcdD.l0 k (dig b) bt225.2)) (fun k => by simp only [merinoref01_gcdD.l0]; rw [if_pos (by omega)]) ?_
      exact Ev.bind (div_ev a b ha hpos hb) h1
theorem gcd_ev (a b : Nat) (ha : Sm a) (hb : Sm b) : Ev (fun k => merinoref01_gcdD.f k (dig a) (dig b)) (dig (Nat.gcd a b)) := gcd_l0_ev b a ha hb
/-! ### Back to a whole number -/
theorem within_l0_ev (neg : Bool) {d : List Int} (hd : Rng d) (hl : d.length ≤ 1000) (hv : val d ≤ 4611686018427387904) : ∀ (m : Nat), m ≤ d.length → Ev (fun k => merinoref01_Within.l0 k (val (d.drop m)) ((m : Int) - 1) neg d) (if neg = true then -(val d : Int) else (val d : Int), true) := by
  intro m
  induction m with
  | zero =>
    intro _
    rw [List.drop_zero]
    refine Ev.step (f := fun _ => some (if neg = true then -(val d : Int) else (val d : Int), true)) (fun k => ?_) (Ev.now _)
    simp only [merinoref01_Within.l0]
    rw [if_neg (by omega)]
    cases neg with
    | true => rw [if_pos rfl, if_pos rfl, wrap_id (by omega) (by omega)]
    | false => rw [if_neg (by decide), if_neg (by decide)]
  | succ m ih =>
    intro hm
    have h1 := val_drop_step d (show m < d.length by omega)
    have h2 : val (d.drop m) ≤ val d := by
      have := val_split d m (by omega)
      have h3 : 1 ≤ 10000 ^ m := Nat.one_le_pow _ _ (by decide)
      have h4 := Nat.mul_le_mul_right (val (d.drop m)) h3
      generalize 10000 ^ m * val (d.drop m) = t at *
      omega
    have gd := hd.getD m
    obtain ⟨A, hA⟩ : ∃ z, z = d.getD m 0 := ⟨_, rfl⟩
    rw [← hA] at h1 gd
    refine Ev.step (f := fun k => merinoref01_Within.l0 k (val (d.drop m)) ((m : Int) - 1) neg d) (fun k => ?_) (ih (by omega))
    simp only [merinoref01_Within.l0]
    have r1 : rd d (((m + 1 : Nat) : Int) - 1) = A := by rw [show (((m + 1 : Nat) : Int) - 1) = (m : Int) by omega, rd_nat, hA]
    rw [if_pos (by omega), if_pos (by omega), if_pos (by omega), r1, wrap_id (x := (val (d.drop (m + 1)) : Int) * 10000) (by omega) (by omega), wrap_id (x := (val (d.drop (m + 1)) : Int) * 10000 + A) (by omega) (by omega), wrap_id (x := ((m + 1 : Nat) : Int) - 1 - 1) (by omega) (by omega)]
    congr 1
    · omega
    · omega
theorem within_ev (neg : Bool) (a : Nat) (ha : Sm a) {most : Int} (h0 : 0 ≤ most) (hm : most ≤ 4611686018427387904) : Ev (fun k => merinoref01_Within.f k neg (dig a) most) (if (a : Int) ≤ most then (if neg = true then -(a : Int) else (a : Int), true) else (0, false)) := by
  have hof := of_ev (x := most) (by omega) (by omega)
  have hl : (dig a).length ≤ 100 := ha
  have hml : (dig most.natAbs).length ≤ 100 := by
    refine Nat.le_trans (dig_len_lt (e := 5) ?_) (by decide)
    have : most.natAbs ≤ 4611686018427387904 := by omega
    exact Nat.lt_of_le_of_lt this (by decide)
  have hcm := cmp_ev a most.natAbs (lt_big (by omega)) (lt_big (by omega))
  refine Ev.bind hof (Ev.bind hcm ?_)
  by_cases hc : (a : Int) ≤ most
  · rw [if_pos hc]
    have h := within_l0_ev neg (Rng_dig a) (by omega) (by rw [val_dig]; omega) (dig a).length (Nat.le_refl _)
    rw [List.drop_of_length_le (Nat.le_refl _), val_dig] at h
    refine Ev.congr (fun k => ?_) h
    rw [if_neg (by unfold sg; split; · decide
                   · rw [if_neg (by omega)]; decide), wrap_id (by omega) (by omega)]
    rfl
  · rw [if_neg hc]
    refine Ev.congr (f := fun _ => some (0, false)) (fun k => ?_) (Ev.now _)
    rw [if_pos (by unfold sg; rw [if_neg (by omega), if_pos (by omega)]; decide)]
/-! ### Whole numbers from 0 on -/
theorem whole_dig (neg : Bool) (a : Nat) (ha : Sm a) : Ev (fun k => merinoref01_whole.f k neg (dig a)) (neg && decide (0 < a), dig a) := by
  have hl : (dig a).length ≤ 100 := ha
  have := whole_ev neg (Rng_dig a) (by omega)
  rwa [val_dig] at this
end Go.Proofs.Ythkfahkkcjagdaa
namespace Go.Proofs.Ythkfahkkcjagdaa
open PClassingBases Go.RowKit Go.Proofs.YthkfahkkcjagdaaW.PrintWords Go.Proofs.YthkfahkkcjagdaaW.PrintMore Go.Proofs.YthkfahkkcjagdaaW.PrintLast

/-- This slice holds the digits of that number. -/
def BD (w : World) (v : Value) (n : Nat) : Prop := ∃ A c, v = .slice A (dig n).length c ∧ (dig n).length ≤ c ∧ Kd.C (Kd.int .i64) w A (dig n).length (dig n)
theorem BD.below {w w' : World} {v : Value} {n : Nat} (h : BD w v n) (hb : Below w.heap.size w w') : BD w' v n := by
  obtain ⟨A, c, e, hc, hr⟩ := h
  exact ⟨A, c, e, hc, Kd.C_below hr hb⟩
theorem BD.of_R {e base : Nat} {ok : Nat → Prop} {w : World} {v : Value} {n : Nat} (h : Kd.R (Kd.int .i64) e w base ok v (dig n)) : BD w v n := by
  obtain ⟨A, c, rfl⟩ := Kd.R_slice h
  exact ⟨A, c, rfl, (Kd.R_reads' h).2.1, (Kd.R_reads' h).2.2⟩
theorem BD.of_V {e base : Nat} {ok : Nat → Prop} {w : World} {v : Value} {n : Nat} (h : Kd.V (Kd.int .i64) e w base ok v (dig n)) : BD w v n := by
  obtain ⟨A, c, rfl⟩ := Kd.V_slice h
  exact ⟨A, c, rfl, (Kd.V_reads' h).2.1, (Kd.V_reads' h).2.2⟩
theorem big_of (x : Int) (w : World) (h1 : -9223372036854775808 ≤ x) (h2 : x ≤ 9223372036854775807) :
    Calls Try.prog 74 #[.int .i64 x] w fun e w' => ∃ v, e = .returned (.agg #[.bool (decide (x < 0)), v]) ∧ BD w' v x.natAbs ∧ Below w.heap.size w w' := by
  obtain ⟨k, hk⟩ := (of_ev h1 h2).rounds
  refine (merinoref01_Of.calls k x _ _ w hk).mono ?_
  rintro e w' ⟨v, rfl, hr, hb⟩
  exact ⟨v, rfl, BD.of_R hr, hb⟩
theorem big_gcd {a b : Nat} {u v : Value} {w : World} (hu : BD w u a) (hv : BD w v b) (ha : Sm a) (hb : Sm b) :
    Calls Try.prog 110 #[u, v] w fun e w' => ∃ z, e = .returned z ∧ BD w' z (Nat.gcd a b) ∧ Below w.heap.size w w' := by
  obtain ⟨k, hk⟩ := (gcd_ev a b ha hb).rounds
  obtain ⟨A, c, rfl, hc, hr⟩ := hu
  obtain ⟨B, d, rfl, hd, hs⟩ := hv
  refine (merinoref01_gcdD.calls k (fun k => k < w.heap.size) A c (dig a) (fun k => k < w.heap.size) B d (dig b) _ w (Kd.V_mk hc (Kd.C_F (Kd.heap_int _) hr)) (Kd.V_mk hd (Kd.C_F (Kd.heap_int _) hs)) hk).mono ?_
  rintro e w' ⟨z, rfl, hz, hb⟩
  exact ⟨z, rfl, BD.of_V hz, hb⟩
theorem big_div {a b : Nat} {u v : Value} {w : World} (hu : BD w u a) (hv : BD w v b) (ha : Sm a) (h0 : 0 < b) (hb : Sm b) :
    Calls Try.prog 111 #[u, v] w fun e w' => ∃ y z, e = .returned (.tuple #[y, z]) ∧ BD w' y (a / b) ∧ BD w' z (a % b) ∧ Below w.heap.size w w' := by
  obtain ⟨k, hk⟩ := (div_ev a b ha h0 hb).rounds
  obtain ⟨A, c, rfl, hc, hr⟩ := hu
  obtain ⟨B, d, rfl, hd, hs⟩ := hv
  refine (merinoref01_divD.calls k A c (dig a) B d (dig b) _ _ w hr hc hs hd hk).mono ?_
  rintro e w' ⟨y, z, rfl, hy, hz, hb⟩
  exact ⟨y, z, rfl, BD.of_R hy, BD.of_R hz, hb⟩
theorem big_whole (neg : Bool) {a : Nat} {u : Value} {w : World} (hu : BD w u a) (ha : Sm a) :
    Calls Try.prog 112 #[.bool neg, u] w fun e w' => ∃ v, e = .returned (.agg #[.bool (neg && decide (0 < a)), v]) ∧ BD w' v a ∧ Below w.heap.size w w' := by
  obtain ⟨k, hk⟩ := (whole_dig neg a ha).rounds
  obtain ⟨A, c, rfl, hc, hr⟩ := hu
  refine (merinoref01_whole.calls k neg A c (dig a) _ _ w hr hc hk).mono ?_
  rintro e w' ⟨v, rfl, hr, hb⟩
  exact ⟨v, rfl, BD.of_R hr, hb⟩
theorem big_within (neg : Bool) {a : Nat} {u : Value} {w : World} (hu : BD w u a) (ha : Sm a) {most : Int} (h0 : 0 ≤ most) (hm : most ≤ 4611686018427387904) :
    Calls Try.prog 78 #[.agg #[.bool neg, u], .int .i64 most] w fun e w' => e = .returned (.tuple #[.int .i64 (if (a : Int) ≤ most then (if neg = true then -(a : Int) else (a : Int)) else 0), .bool (decide ((a : Int) ≤ most))]) ∧ Below w.heap.size w w' := by
  obtain ⟨k, hk⟩ := (within_ev neg a ha h0 hm).rounds
  obtain ⟨A, c, rfl, hc, hr⟩ := hu
  refine merinoref01_Within.calls k neg A c (dig a) most _ _ w hr hc (hk.trans ?_)
  by_cases h : (a : Int) ≤ most
  · simp [h]
  · simp [h]
theorem big_zero (neg : Bool) {a : Nat} {u : Value} {w : World} (hu : BD w u a) :
    Calls Try.prog 116 #[.agg #[.bool neg, u]] w fun e w' => e = .returned (.bool (decide (a = 0))) ∧ Below w.heap.size w w' := by
  obtain ⟨A, c, rfl, hc, hr⟩ := hu
  refine merinoref01_Zero.calls neg A c (dig a) _ w hr hc ?_
  show some (((dig a).length : Int) == 0) = _
  have h := @dig_len0 a
  by_cases h0 : a = 0
  · rw [h.2 h0, h0]; rfl
  · rw [decide_eq_false h0]
    have : (((dig a).length : Int) == 0) = false := beq_false_of_ne (fun e => h0 (h.1 (by omega)))
    rw [this]
end Go.Proofs.Ythkfahkkcjagdaa
namespace Go.Proofs.Ythkfahkkcjagdaa
open PClassingBases Go.RowKit Go.Proofs.YthkfahkkcjagdaaW.PrintWords Go.Proofs.YthkfahkkcjagdaaW.PrintMore Go.Proofs.YthkfahkkcjagdaaW.PrintLast

theorem BD.slice {w : World} {v : Value} {n : Nat} (h : BD w v n) : ∃ A m c, v = .slice A m c := by
  obtain ⟨A, c, rfl, _⟩ := h
  exact ⟨A, _, c, rfl⟩
theorem big_whole0 {a : Nat} {u : Value} {w : World} (hu : BD w u a) (ha : Sm a) :
    Calls Try.prog 112 #[.bool false, u] w fun e w' => ∃ A m c, e = .returned (.agg #[.bool false, .slice A m c]) ∧ BD w' (.slice A m c) a ∧ Below w.heap.size w w' := by
  refine (big_whole false hu ha).mono ?_
  rintro e w' ⟨v, rfl, h, hb⟩
  obtain ⟨A, m, c, rfl⟩ := h.slice
  exact ⟨A, m, c, rfl, h, hb⟩
theorem big_within0 {a : Nat} {u : Value} {w : World} (hu : BD w u a) (ha : Sm a) {most : Int} (h0 : 0 ≤ most) (hm : most ≤ 4611686018427387904) (h : (a : Int) ≤ most) :
    Calls Try.prog 78 #[.agg #[.bool false, u], .int .i64 most] w fun e w' => e = .returned (.tuple #[.int .i64 (a : Int), .bool true]) ∧ Below w.heap.size w w' := by
  refine (big_within false hu ha h0 hm).mono ?_
  rintro e w' ⟨rfl, hb⟩
  refine ⟨?_, hb⟩
  rw [if_pos h, if_neg (by decide), decide_eq_true h]
theorem big_div0 {a b : Nat} {u v : Value} {w : World} (hu : BD w u a) (hv : BD w v b) (ha : Sm a) (h0 : 0 < b) (hb : Sm b) :
    Calls Try.prog 111 #[u, v] w fun e w' => ∃ A m c A2 m2 c2, e = .returned (.tuple #[.slice A m c, .slice A2 m2 c2]) ∧ BD w' (.slice A m c) (a / b) ∧ BD w' (.slice A2 m2 c2) (a % b) ∧ Below w.heap.size w w' := by
  refine (big_div hu hv ha h0 hb).mono ?_
  rintro e w' ⟨y, z, rfl, h1, h2, hb⟩
  obtain ⟨A, m, c, rfl⟩ := h1.slice
  obtain ⟨A2, m2, c2, rfl⟩ := h2.slice
  exact ⟨A, m, c, A2, m2, c2, rfl, h1, h2, hb⟩
theorem big_gcd0 {a b : Nat} {u v : Value} {w : World} (hu : BD w u a) (hv : BD w v b) (ha : Sm a) (hb : Sm b) :
    Calls Try.prog 110 #[u, v] w fun e w' => ∃ A m c, e = .returned (.slice A m c) ∧ BD w' (.slice A m c) (Nat.gcd a b) ∧ Below w.heap.size w w' := by
  refine (big_gcd hu hv ha hb).mono ?_
  rintro e w' ⟨z, rfl, h1, hb⟩
  obtain ⟨A, m, c, rfl⟩ := h1.slice
  exact ⟨A, m, c, rfl, h1, hb⟩
set_option maxHeartbeats 8000000 in
set_option maxRecDepth 100000 in
theorem lowest_any {a b : Nat} {u v : Value} {w : World} (hu : BD w u a) (hv : BD w v b) (ha : Sm a) (h0 : 0 < b) (hb : Sm b) (hp : ((a / Nat.gcd a b : Nat) : Int) ≤ 1099511627776) (hq : ((b / Nat.gcd a b : Nat) : Int) ≤ 1048576) :
    Calls Try.prog 73 #[.agg #[.bool false, u], .agg #[.bool false, v]] w fun e w' => e = .returned (.tuple #[.agg #[.int .i64 ((a / Nat.gcd a b : Nat) : Int), .int .i64 ((b / Nat.gcd a b : Nat) : Int)], .int .i64 0]) ∧ Below w.heap.size w w' := by
  have hu117 := Try.underlying117
  have hu57 := Try.underlying57
  have HG := Aside0.mk (Nat.gcd_pos_of_pos_right a h0)
  have hg0 : Sm (Nat.gcd a b) := Sm.of_le (Nat.le_of_dvd h0 (Nat.gcd_dvd_right a b)) hb
  have hp0 : Sm (a / Nat.gcd a b) := Sm.of_le (Nat.div_le_self _ _) ha
  have hq0 : Sm (b / Nat.gcd a b) := Sm.of_le (Nat.div_le_self _ _) hb
  have HSG := Aside0.mk hg0
  have HSP := Aside0.mk hp0
  have HSQ := Aside0.mk hq0
  have HP := Aside0.mk hp
  have HQ := Aside0.mk hq
  have HA := Aside0.mk ha
  have HBB := Aside0.mk hb
  clear hg0 hp0 hq0 hp hq ha hb h0
  obtain ⟨A, m, c, rfl⟩ := hu.slice
  obtain ⟨A2, m2, c2, rfl⟩ := hv.slice
  have HS : Aside0 (Below w.heap.size w w ∧ BD w (.slice A m c) a ∧ BD w (.slice A2 m2 c2) b) := ⟨⟨Below.refl _ _, hu, hv⟩⟩
  clear hu hv
  go_enter Try.func73, Try.ntmps73
  go_wp2_with (first
    | ((with_reducible refine gate_dst (N := 2) rfl ?_); (try (refine gate_guard (by rfl) ?_; dsimp only)); refine box_event ?hg (N := 2) ?hd (cs := #[.bool false, .slice A m c]) (t := 117) ?hr ?_; (case hd => rfl); (case hg => rfl); (case hr => first | (go_simp; done) | (go_simp; rfl)); intro g2 hg_ v1_ hbox hb; have ge_g2 : Aside0 (w.heap.size ≤ g2) := ⟨by rw [hg_]; exact below_size (HS.out.1)⟩; have HT : Aside0 (Below w.heap.size w v1_ ∧ BD v1_ (.slice A m c) (a) ∧ BD v1_ (.slice A2 m2 c2) (b) ∧ v1_.heap[g2]? = some (.cells #[.bool false, .slice A m c] 117 (0, 0))) := ⟨⟨below_step HS.out.1 hb, BD.below HS.out.2.1 hb, BD.below HS.out.2.2 hb, hbox⟩⟩; clear HS; have HS := HT; clear HT hb hbox hg_; have cv1__g2_0 : v1_.cell? ⟨g2, 0, none⟩ = some (.bool false) := (blk_cell (HS.out.2.2.2) 0).trans rfl; have cv1__g2_1 : v1_.cell? ⟨g2, 1, none⟩ = some (.slice A m c) := (blk_cell (HS.out.2.2.2) 1).trans rfl)
    | ((with_reducible refine gate_dst (N := 3) rfl ?_); (try (refine gate_guard (by rfl) ?_; dsimp only)); refine box_event ?hg (N := 3) ?hd (cs := #[.bool false, .slice A2 m2 c2]) (t := 117) ?hr ?_; (case hd => rfl); (case hg => rfl); (case hr => first | (go_simp; done) | (go_simp; rfl)); intro g3 hg_ v2_ hbox hb; have ge_g3 : Aside0 (w.heap.size ≤ g3) := ⟨by rw [hg_]; exact below_size (HS.out.1)⟩; have ne_g2_g3 : g2 ≠ g3 := (by rw [hg_]; exact Nat.ne_of_lt (blk_lt (HS.out.2.2.2))); have ne_g3_g2 : g3 ≠ g2 := (by rw [hg_]; exact Nat.ne_of_gt (blk_lt (HS.out.2.2.2))); have HT : Aside0 (Below w.heap.size w v2_ ∧ BD v2_ (.slice A m c) (a) ∧ BD v2_ (.slice A2 m2 c2) (b) ∧ v2_.heap[g2]? = some (.cells #[.bool false, .slice A m c] 117 (0, 0)) ∧ v2_.heap[g3]? = some (.cells #[.bool false, .slice A2 m2 c2] 117 (0, 0))) := ⟨⟨below_step HS.out.1 hb, BD.below HS.out.2.1 hb, BD.below HS.out.2.2.1 hb, blk_below HS.out.2.2.2 hb, hbox⟩⟩; clear HS; have HS := HT; clear HT hb hbox hg_; have cv2__g2_0 : v2_.cell? ⟨g2, 0, none⟩ = some (.bool false) := (blk_cell (HS.out.2.2.2.1) 0).trans rfl; have cv2__g2_1 : v2_.cell? ⟨g2, 1, none⟩ = some (.slice A m c) := (blk_cell (HS.out.2.2.2.1) 1).trans rfl; have cv2__g3_0 : v2_.cell? ⟨g3, 0, none⟩ = some (.bool false) := (blk_cell (HS.out.2.2.2.2) 0).trans rfl; have cv2__g3_1 : v2_.cell? ⟨g3, 1, none⟩ = some (.slice A2 m2 c2) := (blk_cell (HS.out.2.2.2.2) 1).trans rfl)
    | ((with_reducible refine gate_dst (N := 4) rfl ?_); (try (refine gate_guard (by rfl) ?_; dsimp only)); refine box_event ?hg (N := 4) ?hd (cs := #[.int .i64 0, .int .i64 0]) (t := 57) ?hr ?_; (case hd => rfl); (case hg => rfl); (case hr => first | (go_simp; done) | (go_simp; rfl)); intro g4 hg_ v3_ hbox hb; have ge_g4 : Aside0 (w.heap.size ≤ g4) := ⟨by rw [hg_]; exact below_size (HS.out.1)⟩; have ne_g2_g4 : g2 ≠ g4 := (by rw [hg_]; exact Nat.ne_of_lt (blk_lt (HS.out.2.2.2.1))); have ne_g4_g2 : g4 ≠ g2 := (by rw [hg_]; exact Nat.ne_of_gt (blk_lt (HS.out.2.2.2.1))); have ne_g3_g4 : g3 ≠ g4 := (by rw [hg_]; exact Nat.ne_of_lt (blk_lt (HS.out.2.2.2.2))); have ne_g4_g3 : g4 ≠ g3 := (by rw [hg_]; exact Nat.ne_of_gt (blk_lt (HS.out.2.2.2.2))); have HT : Aside0 (Below w.heap.size w v3_ ∧ BD v3_ (.slice A m c) (a) ∧ BD v3_ (.slice A2 m2 c2) (b) ∧ v3_.heap[g2]? = some (.cells #[.bool false, .slice A m c] 117 (0, 0)) ∧ v3_.heap[g3]? = some (.cells #[.bool false, .slice A2 m2 c2] 117 (0, 0)) ∧ v3_.heap[g4]? = some (.cells #[.int .i64 0, .int .i64 0] 57 (0, 0))) := ⟨⟨below_step HS.out.1 hb, BD.below HS.out.2.1 hb, BD.below HS.out.2.2.1 hb, blk_below HS.out.2.2.2.1 hb, blk_below HS.out.2.2.2.2 hb, hbox⟩⟩; clear HS; have HS := HT; clear HT hb hbox hg_; have cv3__g2_0 : v3_.cell? ⟨g2, 0, none⟩ = some (.bool false) := (blk_cell (HS.out.2.2.2.1) 0).trans rfl; have cv3__g2_1 : v3_.cell? ⟨g2, 1, none⟩ = some (.slice A m c) := (blk_cell (HS.out.2.2.2.1) 1).trans rfl; have cv3__g3_0 : v3_.cell? ⟨g3, 0, none⟩ = some (.bool false) := (blk_cell (HS.out.2.2.2.2.1) 0).trans rfl; have cv3__g3_1 : v3_.cell? ⟨g3, 1, none⟩ = some (.slice A2 m2 c2) := (blk_cell (HS.out.2.2.2.2.1) 1).trans rfl; have cv3__g4_0 : v3_.cell? ⟨g4, 0, none⟩ = some (.int .i64 0) := (blk_cell (HS.out.2.2.2.2.2) 0).trans rfl; have zv3__g4_0 : v3_.frozen? ⟨g4, 0, none⟩ = false := blk_frozen (HS.out.2.2.2.2.2) 0; have cv3__g4_1 : v3_.cell? ⟨g4, 1, none⟩ = some (.int .i64 0) := (blk_cell (HS.out.2.2.2.2.2) 1).trans rfl; have zv3__g4_1 : v3_.frozen? ⟨g4, 1, none⟩ = false := blk_frozen (HS.out.2.2.2.2.2) 1)
    | ((with_reducible refine gate_callee (f := 110) rfl ?_); (try (refine gate_guard (by rfl) ?_; dsimp only)); refine goesL_ (some 25) rfl rfl Try.func110 (by kernel_rfl) rfl #[.slice A m c, .slice A2 m2 c2] rfl (by (try simp only [List.map_toArray, List.map_cons, List.map_nil]); first | done | rfl) ?_; (with_reducible refine (big_gcd0 (HS.out.2.1) (HS.out.2.2.1) HA.out HBB.out).mono ?_); rintro e v4_ ⟨Ag, mg, cg, rfl, hz_, hb⟩; refine ⟨_, rfl, ?_⟩; have HT : Aside0 (Below w.heap.size w v4_ ∧ BD v4_ (.slice A m c) (a) ∧ BD v4_ (.slice A2 m2 c2) (b) ∧ v4_.heap[g2]? = some (.cells #[.bool false, .slice A m c] 117 (0, 0)) ∧ v4_.heap[g3]? = some (.cells #[.bool false, .slice A2 m2 c2] 117 (0, 0)) ∧ v4_.heap[g4]? = some (.cells #[.int .i64 0, .int .i64 0] 57 (0, 0)) ∧ BD v4_ (.slice Ag mg cg) (Nat.gcd a b)) := ⟨⟨below_step HS.out.1 hb, BD.below HS.out.2.1 hb, BD.below HS.out.2.2.1 hb, blk_below HS.out.2.2.2.1 hb, blk_below HS.out.2.2.2.2.1 hb, blk_below HS.out.2.2.2.2.2 hb, hz_⟩⟩; clear HS; have HS := HT; clear HT; have cv4__g2_0 : v4_.cell? ⟨g2, 0, none⟩ = some (.bool false) := (blk_cell (HS.out.2.2.2.1) 0).trans rfl; have cv4__g2_1 : v4_.cell? ⟨g2, 1, none⟩ = some (.slice A m c) := (blk_cell (HS.out.2.2.2.1) 1).trans rfl; have cv4__g3_0 : v4_.cell? ⟨g3, 0, none⟩ = some (.bool false) := (blk_cell (HS.out.2.2.2.2.1) 0).trans rfl; have cv4__g3_1 : v4_.cell? ⟨g3, 1, none⟩ = some (.slice A2 m2 c2) := (blk_cell (HS.out.2.2.2.2.1) 1).trans rfl; have cv4__g4_0 : v4_.cell? ⟨g4, 0, none⟩ = some (.int .i64 0) := (blk_cell (HS.out.2.2.2.2.2.1) 0).trans rfl; have zv4__g4_0 : v4_.frozen? ⟨g4, 0, none⟩ = false := blk_frozen (HS.out.2.2.2.2.2.1) 0; have cv4__g4_1 : v4_.cell? ⟨g4, 1, none⟩ = some (.int .i64 0) := (blk_cell (HS.out.2.2.2.2.2.1) 1).trans rfl; have zv4__g4_1 : v4_.frozen? ⟨g4, 1, none⟩ = false := blk_frozen (HS.out.2.2.2.2.2.1) 1)
    | ((with_reducible refine gate_callee (f := 111) rfl ?_); (try (refine gate_guard (by rfl) ?_; dsimp only)); refine goesL_ (some 30) rfl rfl Try.func111 (by kernel_rfl) rfl #[.slice A m c, .slice Ag mg cg] rfl (by (try simp only [List.map_toArray, List.map_cons, List.map_nil]); first | done | rfl) ?_; (with_reducible refine (big_div0 (HS.out.2.1) (HS.out.2.2.2.2.2.2) HA.out HG.out HSG.out).mono ?_); rintro e v5_ ⟨Ap, mp, cp, Ax, mx, cx, rfl, hz_, hy_, hb⟩; refine ⟨_, rfl, ?_⟩; have HT : Aside0 (Below w.heap.size w v5_ ∧ BD v5_ (.slice A m c) (a) ∧ BD v5_ (.slice A2 m2 c2) (b) ∧ v5_.heap[g2]? = some (.cells #[.bool false, .slice A m c] 117 (0, 0)) ∧ v5_.heap[g3]? = some (.cells #[.bool false, .slice A2 m2 c2] 117 (0, 0)) ∧ v5_.heap[g4]? = some (.cells #[.int .i64 0, .int .i64 0] 57 (0, 0)) ∧ BD v5_ (.slice Ag mg cg) (Nat.gcd a b) ∧ BD v5_ (.slice Ap mp cp) (a / Nat.gcd a b)) := ⟨⟨below_step HS.out.1 hb, BD.below HS.out.2.1 hb, BD.below HS.out.2.2.1 hb, blk_below HS.out.2.2.2.1 hb, blk_below HS.out.2.2.2.2.1 hb, blk_below HS.out.2.2.2.2.2.1 hb, BD.below HS.out.2.2.2.2.2.2 hb, hz_⟩⟩; clear HS; have HS := HT; clear HT; have cv5__g2_0 : v5_.cell? ⟨g2, 0, none⟩ = some (.bool false) := (blk_cell (HS.out.2.2.2.1) 0).trans rfl; have cv5__g2_1 : v5_.cell? ⟨g2, 1, none⟩ = some (.slice A m c) := (blk_cell (HS.out.2.2.2.1) 1).trans rfl; have cv5__g3_0 : v5_.cell? ⟨g3, 0, none⟩ = some (.bool false) := (blk_cell (HS.out.2.2.2.2.1) 0).trans rfl; have cv5__g3_1 : v5_.cell? ⟨g3, 1, none⟩ = some (.slice A2 m2 c2) := (blk_cell (HS.out.2.2.2.2.1) 1).trans rfl; have cv5__g4_0 : v5_.cell? ⟨g4, 0, none⟩ = some (.int .i64 0) := (blk_cell (HS.out.2.2.2.2.2.1) 0).trans rfl; have zv5__g4_0 : v5_.frozen? ⟨g4, 0, none⟩ = false := blk_frozen (HS.out.2.2.2.2.2.1) 0; have cv5__g4_1 : v5_.cell? ⟨g4, 1, none⟩ = some (.int .i64 0) := (blk_cell (HS.out.2.2.2.2.2.1) 1).trans rfl; have zv5__g4_1 : v5_.frozen? ⟨g4, 1, none⟩ = false := blk_frozen (HS.out.2.2.2.2.2.1) 1)
    | ((with_reducible refine gate_callee (f := 111) rfl ?_); (try (refine gate_guard (by rfl) ?_; dsimp only)); refine goesL_ (some 37) rfl rfl Try.func111 (by kernel_rfl) rfl #[.slice A2 m2 c2, .slice Ag mg cg] rfl (by (try simp only [List.map_toArray, List.map_cons, List.map_nil]); first | done | rfl) ?_; (with_reducible refine (big_div0 (HS.out.2.2.1) (HS.out.2.2.2.2.2.2.1) HBB.out HG.out HSG.out).mono ?_); rintro e v6_ ⟨Aq, mq, cq, Ay, my, cy, rfl, hz_, hy_, hb⟩; refine ⟨_, rfl, ?_⟩; have HT : Aside0 (Below w.heap.size w v6_ ∧ BD v6_ (.slice A m c) (a) ∧ BD v6_ (.slice A2 m2 c2) (b) ∧ v6_.heap[g2]? = some (.cells #[.bool false, .slice A m c] 117 (0, 0)) ∧ v6_.heap[g3]? = some (.cells #[.bool false, .slice A2 m2 c2] 117 (0, 0)) ∧ v6_.heap[g4]? = some (.cells #[.int .i64 0, .int .i64 0] 57 (0, 0)) ∧ BD v6_ (.slice Ag mg cg) (Nat.gcd a b) ∧ BD v6_ (.slice Ap mp cp) (a / Nat.gcd a b) ∧ BD v6_ (.slice Aq mq cq) (b / Nat.gcd a b)) := ⟨⟨below_step HS.out.1 hb, BD.below HS.out.2.1 hb, BD.below HS.out.2.2.1 hb, blk_below HS.out.2.2.2.1 hb, blk_below HS.out.2.2.2.2.1 hb, blk_below HS.out.2.2.2.2.2.1 hb, BD.below HS.out.2.2.2.2.2.2.1 hb, BD.below HS.out.2.2.2.2.2.2.2 hb, hz_⟩⟩; clear HS; have HS := HT; clear HT; have cv6__g2_0 : v6_.cell? ⟨g2, 0, none⟩ = some (.bool false) := (blk_cell (HS.out.2.2.2.1) 0).trans rfl; have cv6__g2_1 : v6_.cell? ⟨g2, 1, none⟩ = some (.slice A m c) := (blk_cell (HS.out.2.2.2.1) 1).trans rfl; have cv6__g3_0 : v6_.cell? ⟨g3, 0, none⟩ = some (.bool false) := (blk_cell (HS.out.2.2.2.2.1) 0).trans rfl; have cv6__g3_1 : v6_.cell? ⟨g3, 1, none⟩ = some (.slice A2 m2 c2) := (blk_cell (HS.out.2.2.2.2.1) 1).trans rfl; have cv6__g4_0 : v6_.cell? ⟨g4, 0, none⟩ = some (.int .i64 0) := (blk_cell (HS.out.2.2.2.2.2.1) 0).trans rfl; have zv6__g4_0 : v6_.frozen? ⟨g4, 0, none⟩ = false := blk_frozen (HS.out.2.2.2.2.2.1) 0; have cv6__g4_1 : v6_.cell? ⟨g4, 1, none⟩ = some (.int .i64 0) := (blk_cell (HS.out.2.2.2.2.2.1) 1).trans rfl; have zv6__g4_1 : v6_.frozen? ⟨g4, 1, none⟩ = false := blk_frozen (HS.out.2.2.2.2.2.1) 1)
    | ((with_reducible refine gate_callee (f := 112) rfl ?_); (try (refine gate_guard (by rfl) ?_; dsimp only)); refine goesL_ (some 44) rfl rfl Try.func112 (by kernel_rfl) rfl #[.bool false, .slice Ap mp cp] rfl (by (try simp only [List.map_toArray, List.map_cons, List.map_nil]); first | done | rfl) ?_; (with_reducible refine (big_whole0 (HS.out.2.2.2.2.2.2.2.1) HSP.out).mono ?_); rintro e v7_ ⟨Ar, mr, cr, rfl, hz_, hb⟩; refine ⟨_, rfl, ?_⟩; have HT : Aside0 (Below w.heap.size w v7_ ∧ BD v7_ (.slice A m c) (a) ∧ BD v7_ (.slice A2 m2 c2) (b) ∧ v7_.heap[g2]? = some (.cells #[.bool false, .slice A m c] 117 (0, 0)) ∧ v7_.heap[g3]? = some (.cells #[.bool false, .slice A2 m2 c2] 117 (0, 0)) ∧ v7_.heap[g4]? = some (.cells #[.int .i64 0, .int .i64 0] 57 (0, 0)) ∧ BD v7_ (.slice Ag mg cg) (Nat.gcd a b) ∧ BD v7_ (.slice Ap mp cp) (a / Nat.gcd a b) ∧ BD v7_ (.slice Aq mq cq) (b / Nat.gcd a b) ∧ BD v7_ (.slice Ar mr cr) (a / Nat.gcd a b)) := ⟨⟨below_step HS.out.1 hb, BD.below HS.out.2.1 hb, BD.below HS.out.2.2.1 hb, blk_below HS.out.2.2.2.1 hb, blk_below HS.out.2.2.2.2.1 hb, blk_below HS.out.2.2.2.2.2.1 hb, BD.below HS.out.2.2.2.2.2.2.1 hb, BD.below HS.out.2.2.2.2.2.2.2.1 hb, BD.below HS.out.2.2.2.2.2.2.2.2 hb, hz_⟩⟩; clear HS; have HS := HT; clear HT; have cv7__g2_0 : v7_.cell? ⟨g2, 0, none⟩ = some (.bool false) := (blk_cell (HS.out.2.2.2.1) 0).trans rfl; have cv7__g2_1 : v7_.cell? ⟨g2, 1, none⟩ = some (.slice A m c) := (blk_cell (HS.out.2.2.2.1) 1).trans rfl; have cv7__g3_0 : v7_.cell? ⟨g3, 0, none⟩ = some (.bool false) := (blk_cell (HS.out.2.2.2.2.1) 0).trans rfl; have cv7__g3_1 : v7_.cell? ⟨g3, 1, none⟩ = some (.slice A2 m2 c2) := (blk_cell (HS.out.2.2.2.2.1) 1).trans rfl; have cv7__g4_0 : v7_.cell? ⟨g4, 0, none⟩ = some (.int .i64 0) := (blk_cell (HS.out.2.2.2.2.2.1) 0).trans rfl; have zv7__g4_0 : v7_.frozen? ⟨g4, 0, none⟩ = false := blk_frozen (HS.out.2.2.2.2.2.1) 0; have cv7__g4_1 : v7_.cell? ⟨g4, 1, none⟩ = some (.int .i64 0) := (blk_cell (HS.out.2.2.2.2.2.1) 1).trans rfl; have zv7__g4_1 : v7_.frozen? ⟨g4, 1, none⟩ = false := blk_frozen (HS.out.2.2.2.2.2.1) 1)
    | ((with_reducible refine gate_callee (f := 78) rfl ?_); (try (refine gate_guard (by rfl) ?_; dsimp only)); refine goesL_ (some 45) rfl rfl Try.func78 (by kernel_rfl) rfl #[.agg #[.bool false, .slice Ar mr cr], .int .i64 1099511627776] rfl (by (try simp only [List.map_toArray, List.map_cons, List.map_nil]); first | done | rfl) ?_; (with_reducible refine (big_within0 (HS.out.2.2.2.2.2.2.2.2.2) HSP.out (by decide) (by decide) HP.out).mono ?_); rintro e v8_ ⟨rfl, hb⟩; refine ⟨_, rfl, ?_⟩; have HT : Aside0 (Below w.heap.size w v8_ ∧ BD v8_ (.slice A m c) (a) ∧ BD v8_ (.slice A2 m2 c2) (b) ∧ v8_.heap[g2]? = some (.cells #[.bool false, .slice A m c] 117 (0, 0)) ∧ v8_.heap[g3]? = some (.cells #[.bool false, .slice A2 m2 c2] 117 (0, 0)) ∧ v8_.heap[g4]? = some (.cells #[.int .i64 0, .int .i64 0] 57 (0, 0)) ∧ BD v8_ (.slice Ag mg cg) (Nat.gcd a b) ∧ BD v8_ (.slice Ap mp cp) (a / Nat.gcd a b) ∧ BD v8_ (.slice Aq mq cq) (b / Nat.gcd a b) ∧ BD v8_ (.slice Ar mr cr) (a / Nat.gcd a b)) := ⟨⟨below_step HS.out.1 hb, BD.below HS.out.2.1 hb, BD.below HS.out.2.2.1 hb, blk_below HS.out.2.2.2.1 hb, blk_below HS.out.2.2.2.2.1 hb, blk_below HS.out.2.2.2.2.2.1 hb, BD.below HS.out.2.2.2.2.2.2.1 hb, BD.below HS.out.2.2.2.2.2.2.2.1 hb, BD.below HS.out.2.2.2.2.2.2.2.2.1 hb, BD.below HS.out.2.2.2.2.2.2.2.2.2 hb⟩⟩; clear HS; have HS := HT; clear HT; have cv8__g2_0 : v8_.cell? ⟨g2, 0, none⟩ = some (.bool false) := (blk_cell (HS.out.2.2.2.1) 0).trans rfl; have cv8__g2_1 : v8_.cell? ⟨g2, 1, none⟩ = some (.slice A m c) := (blk_cell (HS.out.2.2.2.1) 1).trans rfl; have cv8__g3_0 : v8_.cell? ⟨g3, 0, none⟩ = some (.bool false) := (blk_cell (HS.out.2.2.2.2.1) 0).trans rfl; have cv8__g3_1 : v8_.cell? ⟨g3, 1, none⟩ = some (.slice A2 m2 c2) := (blk_cell (HS.out.2.2.2.2.1) 1).trans rfl; have cv8__g4_0 : v8_.cell? ⟨g4, 0, none⟩ = some (.int .i64 0) := (blk_cell (HS.out.2.2.2.2.2.1) 0).trans rfl; have zv8__g4_0 : v8_.frozen? ⟨g4, 0, none⟩ = false := blk_frozen (HS.out.2.2.2.2.2.1) 0; have cv8__g4_1 : v8_.cell? ⟨g4, 1, none⟩ = some (.int .i64 0) := (blk_cell (HS.out.2.2.2.2.2.1) 1).trans rfl; have zv8__g4_1 : v8_.frozen? ⟨g4, 1, none⟩ = false := blk_frozen (HS.out.2.2.2.2.2.1) 1)
    | ((with_reducible refine gate_callee (f := 112) rfl ?_); (try (refine gate_guard (by rfl) ?_; dsimp only)); refine goesL_ (some 50) rfl rfl Try.func112 (by kernel_rfl) rfl #[.bool false, .slice Aq mq cq] rfl (by (try simp only [List.map_toArray, List.map_cons, List.map_nil]); first | done | rfl) ?_; (with_reducible refine (big_whole0 (HS.out.2.2.2.2.2.2.2.2.1) HSQ.out).mono ?_); rintro e v9_ ⟨As, ms, cs, rfl, hz_, hb⟩; refine ⟨_, rfl, ?_⟩; have HT : Aside0 (Below w.heap.size w v9_ ∧ BD v9_ (.slice A m c) (a) ∧ BD v9_ (.slice A2 m2 c2) (b) ∧ v9_.heap[g2]? = some (.cells #[.bool false, .slice A m c] 117 (0, 0)) ∧ v9_.heap[g3]? = some (.cells #[.bool false, .slice A2 m2 c2] 117 (0, 0)) ∧ v9_.heap[g4]? = some (.cells #[.int .i64 0, .int .i64 0] 57 (0, 0)) ∧ BD v9_ (.slice Ag mg cg) (Nat.gcd a b) ∧ BD v9_ (.slice Ap mp cp) (a / Nat.gcd a b) ∧ BD v9_ (.slice Aq mq cq) (b / Nat.gcd a b) ∧ BD v9_ (.slice Ar mr cr) (a / Nat.gcd a b) ∧ BD v9_ (.slice As ms cs) (b / Nat.gcd a b)) := ⟨⟨below_step HS.out.1 hb, BD.below HS.out.2.1 hb, BD.below HS.out.2.2.1 hb, blk_below HS.out.2.2.2.1 hb, blk_below HS.out.2.2.2.2.1 hb, blk_below HS.out.2.2.2.2.2.1 hb, BD.below HS.out.2.2.2.2.2.2.1 hb, BD.below HS.out.2.2.2.2.2.2.2.1 hb, BD.below HS.out.2.2.2.2.2.2.2.2.1 hb, BD.below HS.out.2.2.2.2.2.2.2.2.2 hb, hz_⟩⟩; clear HS; have HS := HT; clear HT; have cv9__g2_0 : v9_.cell? ⟨g2, 0, none⟩ = some (.bool false) := (blk_cell (HS.out.2.2.2.1) 0).trans rfl; have cv9__g2_1 : v9_.cell? ⟨g2, 1, none⟩ = some (.slice A m c) := (blk_cell (HS.out.2.2.2.1) 1).trans rfl; have cv9__g3_0 : v9_.cell? ⟨g3, 0, none⟩ = some (.bool false) := (blk_cell (HS.out.2.2.2.2.1) 0).trans rfl; have cv9__g3_1 : v9_.cell? ⟨g3, 1, none⟩ = some (.slice A2 m2 c2) := (blk_cell (HS.out.2.2.2.2.1) 1).trans rfl; have cv9__g4_0 : v9_.cell? ⟨g4, 0, none⟩ = some (.int .i64 0) := (blk_cell (HS.out.2.2.2.2.2.1) 0).trans rfl; have zv9__g4_0 : v9_.frozen? ⟨g4, 0, none⟩ = false := blk_frozen (HS.out.2.2.2.2.2.1) 0; have cv9__g4_1 : v9_.cell? ⟨g4, 1, none⟩ = some (.int .i64 0) := (blk_cell (HS.out.2.2.2.2.2.1) 1).trans rfl; have zv9__g4_1 : v9_.frozen? ⟨g4, 1, none⟩ = false := blk_frozen (HS.out.2.2.2.2.2.1) 1)
    | ((with_reducible refine gate_callee (f := 78) rfl ?_); (try (refine gate_guard (by rfl) ?_; dsimp only)); refine goesL_ (some 51) rfl rfl Try.func78 (by kernel_rfl) rfl #[.agg #[.bool false, .slice As ms cs], .int .i64 1048576] rfl (by (try simp only [List.map_toArray, List.map_cons, List.map_nil]); first | done | rfl) ?_; (with_reducible refine (big_within0 (HS.out.2.2.2.2.2.2.2.2.2.2) HSQ.out (by decide) (by decide) HQ.out).mono ?_); rintro e v10_ ⟨rfl, hb⟩; refine ⟨_, rfl, ?_⟩; have HT : Aside0 (Below w.heap.size w v10_ ∧ BD v10_ (.slice A m c) (a) ∧ BD v10_ (.slice A2 m2 c2) (b) ∧ v10_.heap[g2]? = some (.cells #[.bool false, .slice A m c] 117 (0, 0)) ∧ v10_.heap[g3]? = some (.cells #[.bool false, .slice A2 m2 c2] 117 (0, 0)) ∧ v10_.heap[g4]? = some (.cells #[.int .i64 0, .int .i64 0] 57 (0, 0)) ∧ BD v10_ (.slice Ag mg cg) (Nat.gcd a b) ∧ BD v10_ (.slice Ap mp cp) (a / Nat.gcd a b) ∧ BD v10_ (.slice Aq mq cq) (b / Nat.gcd a b) ∧ BD v10_ (.slice Ar mr cr) (a / Nat.gcd a b) ∧ BD v10_ (.slice As ms cs) (b / Nat.gcd a b)) := ⟨⟨below_step HS.out.1 hb, BD.below HS.out.2.1 hb, BD.below HS.out.2.2.1 hb, blk_below HS.out.2.2.2.1 hb, blk_below HS.out.2.2.2.2.1 hb, blk_below HS.out.2.2.2.2.2.1 hb, BD.below HS.out.2.2.2.2.2.2.1 hb, BD.below HS.out.2.2.2.2.2.2.2.1 hb, BD.below HS.out.2.2.2.2.2.2.2.2.1 hb, BD.below HS.out.2.2.2.2.2.2.2.2.2.1 hb, BD.below HS.out.2.2.2.2.2.2.2.2.2.2 hb⟩⟩; clear HS; have HS := HT; clear HT; have cv10__g2_0 : v10_.cell? ⟨g2, 0, none⟩ = some (.bool false) := (blk_cell (HS.out.2.2.2.1) 0).trans rfl; have cv10__g2_1 : v10_.cell? ⟨g2, 1, none⟩ = some (.slice A m c) := (blk_cell (HS.out.2.2.2.1) 1).trans rfl; have cv10__g3_0 : v10_.cell? ⟨g3, 0, none⟩ = some (.bool false) := (blk_cell (HS.out.2.2.2.2.1) 0).trans rfl; have cv10__g3_1 : v10_.cell? ⟨g3, 1, none⟩ = some (.slice A2 m2 c2) := (blk_cell (HS.out.2.2.2.2.1) 1).trans rfl; have cv10__g4_0 : v10_.cell? ⟨g4, 0, none⟩ = some (.int .i64 0) := (blk_cell (HS.out.2.2.2.2.2.1) 0).trans rfl; have zv10__g4_0 : v10_.frozen? ⟨g4, 0, none⟩ = false := blk_frozen (HS.out.2.2.2.2.2.1) 0; have cv10__g4_1 : v10_.cell? ⟨g4, 1, none⟩ = some (.int .i64 0) := (blk_cell (HS.out.2.2.2.2.2.1) 1).trans rfl; have zv10__g4_1 : v10_.frozen? ⟨g4, 1, none⟩ = false := blk_frozen (HS.out.2.2.2.2.2.1) 1))
  refine bodyPost_ret (results_ct rfl _ _ g4 57 #[.int .i64 ((a / Nat.gcd a b : Nat) : Int), .int .i64 ((b / Nat.gcd a b : Nat) : Int)] (0, 0) _ rfl (by refine blk_put (cs := #[.int .i64 ((a / Nat.gcd a b : Nat) : Int), .int .i64 0]) ?_ 1 _ rfl; refine blk_put (cs := #[.int .i64 0, .int .i64 0]) ?_ 0 _ rfl; exact HS.out.2.2.2.2.2.1) Try.underlying57 rfl (by kernel_rfl)) rfl ?_
  exact ⟨rfl, below_set (below_set (HS.out.1) ge_g4.out) ge_g4.out⟩
end Go.Proofs.Ythkfahkkcjagdaa
namespace Go.Proofs.Ythkfahkkcjagdaa
open PClassingBases Go.RowKit Go.Proofs.YthkfahkkcjagdaaW.PrintWords Go.Proofs.YthkfahkkcjagdaaW.PrintMore Go.Proofs.YthkfahkkcjagdaaW.PrintLast
set_option linter.unusedVariables false
set_option linter.unusedSimpArgs false

theorem BD.drew {w : World} {v : Value} {n : Nat} (h : BD w v n) : BD w.drew v n := by
  obtain ⟨A, c, e, hc, hr⟩ := h
  exact ⟨A, c, e, hc, Kd.C_drew hr⟩
/-- A store into the block of a number's own variable leaves the digits. -/
theorem BD.set {w : World} {v : Value} {n : Nat} (h : BD w v n) {g t : Nat} {b : Bool} {A : Option Addr} {m c : Nat} (hg : w.heap[g]? = some (.cells #[.bool b, .slice A m c] t (0, 0))) (i : Nat) (z : Value) : BD (w.setCell ⟨g, i, none⟩ z) v n := by
  obtain ⟨A', c', e, hc, hr⟩ := h
  refine ⟨A', c', e, hc, C_of_cells hr fun hp ad ea j => cell_far ?_ z⟩
  rw [add_block]
  intro hbk
  obtain ⟨ad', cc, h1, h2, h3, h4⟩ := Kd.C_get hr 0 0 (Int.le_refl _) (by omega)
  rw [ea] at h1
  injection h1 with h1
  subst h1
  have h6 : cc = [.int .i64 ((dig n).getD (Int.toNat 0) 0)] := h3
  have h7 := h4 0 _ (by rw [h6]; rfl)
  unfold World.cell? at h7
  rw [add_block, hbk, hg] at h7
  dsimp only at h7
  split at h7
  · cases h7
  · generalize (ad.add (Int.toNat 0 * (Kd.int .i64).sz + 0)).off = k at h7
    match k with
    | 0 => cases h7
    | 1 => cases h7
    | k + 2 => simp at h7
theorem big_cmpD {a b : Nat} {s : Int} (hs : sg a b = s) {u v : Value} {w : World} (hu : BD w u a) (hv : BD w v b) (ha : Sm a) (hb : Sm b) :
    Calls Try.prog 114 #[u, v] w fun e w' => e = .returned (.int .i64 s) ∧ Below w.heap.size w w' := by
  have h1 : (dig a).length ≤ 100 := ha
  have h2 : (dig b).length ≤ 100 := hb
  obtain ⟨k, hk⟩ := (cmp_ev a b (lt_big (by omega)) (lt_big (by omega))).rounds
  obtain ⟨A, c, rfl, hc, hr⟩ := hu
  obtain ⟨B, d, rfl, hd, hs'⟩ := hv
  refine (merinoref01_cmpD.calls k A c (dig a) B d (dig b) _ w hr hc hs' hd hk).mono ?_
  rintro e w' ⟨rfl, hb⟩
  exact ⟨by rw [hs], hb.below⟩
/-- A sum's digits, before they are trimmed, and the number behind it. -/
def BL (w : World) (v : Value) (n : Nat) : Prop := ∃ l : List Int, Rng l ∧ val l = n ∧ l.length ≤ 1001 ∧ ∃ A c, v = .slice A l.length c ∧ l.length ≤ c ∧ Kd.C (Kd.int .i64) w A l.length l
theorem BL.slice {w : World} {v : Value} {n : Nat} (h : BL w v n) : ∃ A m c, v = .slice A m c := by
  obtain ⟨l, _, _, _, A, c, rfl, _⟩ := h
  exact ⟨A, _, c, rfl⟩
theorem big_add {a b : Nat} {u v : Value} {w : World} (hu : BD w u a) (hv : BD w v b) (ha : Sm a) (hb : Sm b) :
    Calls Try.prog 131 #[u, v] w fun e w' => ∃ A m c, e = .returned (.slice A m c) ∧ BL w' (.slice A m c) (a + b) ∧ Below w.heap.size w w' := by
  have h1 : (dig a).length ≤ 100 := ha
  have h2 : (dig b).length ≤ 100 := hb
  obtain ⟨l, e1, e2, e3, e4⟩ := add_ev (Rng_dig a) (Rng_dig b) (by omega) (by omega)
  rw [val_dig, val_dig] at e3
  obtain ⟨k, hk⟩ := e1.rounds
  obtain ⟨A, c, rfl, hc, hr⟩ := hu
  obtain ⟨B, d, rfl, hd, hs⟩ := hv
  refine (merinoref01_addD.calls k A c (dig a) B d (dig b) _ w hr hc hs hd hk).mono ?_
  rintro e w' ⟨z, rfl, hz, hb⟩
  obtain ⟨A, c, rfl⟩ := Kd.R_slice hz
  exact ⟨A, _, c, rfl, ⟨l, e2, e3, e4, A, c, rfl, (Kd.R_reads' hz).2.1, (Kd.R_reads' hz).2.2⟩, hb⟩
theorem big_wholeL {n : Nat} {u : Value} {w : World} (hu : BL w u n) :
    Calls Try.prog 112 #[.bool false, u] w fun e w' => ∃ A m c, e = .returned (.agg #[.bool false, .slice A m c]) ∧ BD w' (.slice A m c) n ∧ Below w.heap.size w w' := by
  obtain ⟨l, hl, hn, hm, A, c, rfl, hc, hr⟩ := hu
  have h := whole_ev false hl (by omega)
  rw [Bool.false_and, hn] at h
  obtain ⟨k, hk⟩ := h.rounds
  refine (merinoref01_whole.calls k false A c l _ _ w hr hc hk).mono ?_
  rintro e w' ⟨v, rfl, hr, hb⟩
  obtain ⟨A, m, c, rfl⟩ := (BD.of_R hr).slice
  exact ⟨A, m, c, rfl, BD.of_R hr, hb⟩
set_option maxHeartbeats 8000000 in
set_option maxRecDepth 100000 in
theorem big_compare0 {a b : Nat} {s : Int} (hs : sg a b = s) {u v : Value} {w : World} (hu : BD w u a) (hv : BD w v b) (ha : Sm a) (hb : Sm b) :
    Calls Try.prog 117 #[.agg #[.bool false, u], .agg #[.bool false, v]] w fun e w' => e = .returned (.int .i64 s) ∧ Below w.heap.size w w' := by
  have hu117 := Try.underlying117
  have HA := Aside0.mk ha
  have HBB := Aside0.mk hb
  have HC := Aside0.mk hs
  clear hs
  clear ha hb
  obtain ⟨A, m, c, rfl⟩ := hu.slice
  obtain ⟨A2, m2, c2, rfl⟩ := hv.slice
  have HS : Aside0 (Below w.heap.size w w ∧ BD w (.slice A m c) a ∧ BD w (.slice A2 m2 c2) b) := ⟨⟨Below.refl _ _, hu, hv⟩⟩
  clear hu hv
  go_enter Try.func117, Try.ntmps117
  go_wp2_with (first
    | ((with_reducible refine gate_dst (N := 2) rfl ?_); (try (refine gate_guard (by rfl) ?_; dsimp only)); refine box_event ?hg (N := 2) ?hd (cs := #[.bool false, .slice A m c]) (t := 117) ?hr ?_; (case hd => rfl); (case hg => rfl); (case hr => first | (go_simp; done) | (go_simp; rfl)); intro g2 hg_ v1_ hbox hb; have ge_g2 : Aside0 (w.heap.size ≤ g2) := ⟨by rw [hg_]; exact below_size (HS.out.1)⟩; have HT : Aside0 (Below w.heap.size w v1_ ∧ BD v1_ (.slice A m c) (a) ∧ BD v1_ (.slice A2 m2 c2) (b) ∧ v1_.heap[g2]? = some (.cells #[.bool false, .slice A m c] 117 (0, 0))) := ⟨⟨below_step HS.out.1 hb, BD.below HS.out.2.1 hb, BD.below HS.out.2.2 hb, hbox⟩⟩; clear HS; have HS := HT; clear HT hb hbox hg_; have cv1__g2_0 : v1_.cell? ⟨g2, 0, none⟩ = some (.bool false) := (blk_cell (HS.out.2.2.2) 0).trans rfl; have cv1__g2_1 : v1_.cell? ⟨g2, 1, none⟩ = some (.slice A m c) := (blk_cell (HS.out.2.2.2) 1).trans rfl)
    | ((with_reducible refine gate_dst (N := 3) rfl ?_); (try (refine gate_guard (by rfl) ?_; dsimp only)); refine box_event ?hg (N := 3) ?hd (cs := #[.bool false, .slice A2 m2 c2]) (t := 117) ?hr ?_; (case hd => rfl); (case hg => rfl); (case hr => first | (go_simp; done) | (go_simp; rfl)); intro g3 hg_ v2_ hbox hb; have ge_g3 : Aside0 (w.heap.size ≤ g3) := ⟨by rw [hg_]; exact below_size (HS.out.1)⟩; have ne_g2_g3 : g2 ≠ g3 := (by rw [hg_]; exact Nat.ne_of_lt (blk_lt (HS.out.2.2.2))); have ne_g3_g2 : g3 ≠ g2 := (by rw [hg_]; exact Nat.ne_of_gt (blk_lt (HS.out.2.2.2))); have HT : Aside0 (Below w.heap.size w v2_ ∧ BD v2_ (.slice A m c) (a) ∧ BD v2_ (.slice A2 m2 c2) (b) ∧ v2_.heap[g2]? = some (.cells #[.bool false, .slice A m c] 117 (0, 0)) ∧ v2_.heap[g3]? = some (.cells #[.bool false, .slice A2 m2 c2] 117 (0, 0))) := ⟨⟨below_step HS.out.1 hb, BD.below HS.out.2.1 hb, BD.below HS.out.2.2.1 hb, blk_below HS.out.2.2.2 hb, hbox⟩⟩; clear HS; have HS := HT; clear HT hb hbox hg_; have cv2__g2_0 : v2_.cell? ⟨g2, 0, none⟩ = some (.bool false) := (blk_cell (HS.out.2.2.2.1) 0).trans rfl; have cv2__g2_1 : v2_.cell? ⟨g2, 1, none⟩ = some (.slice A m c) := (blk_cell (HS.out.2.2.2.1) 1).trans rfl; have cv2__g3_0 : v2_.cell? ⟨g3, 0, none⟩ = some (.bool false) := (blk_cell (HS.out.2.2.2.2) 0).trans rfl; have cv2__g3_1 : v2_.cell? ⟨g3, 1, none⟩ = some (.slice A2 m2 c2) := (blk_cell (HS.out.2.2.2.2) 1).trans rfl)
    | ((with_reducible refine gate_callee (f := 114) rfl ?_); (try (refine gate_guard (by rfl) ?_; dsimp only)); refine goesL_ (some 17) rfl rfl Try.func114 (by kernel_rfl) rfl #[.slice A m c, .slice A2 m2 c2] rfl (by (try simp only [List.map_toArray, List.map_cons, List.map_nil]); first | done | rfl) ?_; (with_reducible refine (big_cmpD HC.out (HS.out.2.1) (HS.out.2.2.1) HA.out HBB.out).mono ?_); rintro e v3_ ⟨rfl, hb⟩; refine ⟨_, rfl, ?_⟩; have HT : Aside0 (Below w.heap.size w v3_ ∧ BD v3_ (.slice A m c) (a) ∧ BD v3_ (.slice A2 m2 c2) (b) ∧ v3_.heap[g2]? = some (.cells #[.bool false, .slice A m c] 117 (0, 0)) ∧ v3_.heap[g3]? = some (.cells #[.bool false, .slice A2 m2 c2] 117 (0, 0))) := ⟨⟨below_step HS.out.1 hb, BD.below HS.out.2.1 hb, BD.below HS.out.2.2.1 hb, blk_below HS.out.2.2.2.1 hb, blk_below HS.out.2.2.2.2 hb⟩⟩; clear HS; have HS := HT; clear HT; have cv3__g2_0 : v3_.cell? ⟨g2, 0, none⟩ = some (.bool false) := (blk_cell (HS.out.2.2.2.1) 0).trans rfl; have cv3__g2_1 : v3_.cell? ⟨g2, 1, none⟩ = some (.slice A m c) := (blk_cell (HS.out.2.2.2.1) 1).trans rfl; have cv3__g3_0 : v3_.cell? ⟨g3, 0, none⟩ = some (.bool false) := (blk_cell (HS.out.2.2.2.2) 0).trans rfl; have cv3__g3_1 : v3_.cell? ⟨g3, 1, none⟩ = some (.slice A2 m2 c2) := (blk_cell (HS.out.2.2.2.2) 1).trans rfl))
  go_ret
  exact ⟨rfl, HS.out.1⟩
set_option maxHeartbeats 8000000 in
set_option maxRecDepth 100000 in
theorem big_over0 {a b : Nat} (h0 : 0 < b) {u v : Value} {w : World} (hu : BD w u a) (hv : BD w v b) (ha : Sm a) (hb : Sm b) :
    Calls Try.prog 115 #[.agg #[.bool false, u], .agg #[.bool false, v]] w fun e w' => ∃ A m c A2 m2 c2, e = .returned (.tuple #[.agg #[.bool false, .slice A m c], .agg #[.bool false, .slice A2 m2 c2]]) ∧ BD w' (.slice A m c) (a / b) ∧ BD w' (.slice A2 m2 c2) (a % b) ∧ Below w.heap.size w w' := by
  have hu117 := Try.underlying117
  have HA := Aside0.mk ha
  have HBB := Aside0.mk hb
  have H0 := Aside0.mk h0
  have HSQ := Aside0.mk (Sm.of_le (Nat.div_le_self a b) ha)
  have HSR := Aside0.mk (Sm.of_le (Nat.le_of_lt (Nat.mod_lt a h0)) hb)
  clear h0
  clear ha hb
  obtain ⟨A, m, c, rfl⟩ := hu.slice
  obtain ⟨A2, m2, c2, rfl⟩ := hv.slice
  have HS : Aside0 (Below w.heap.size w w ∧ BD w (.slice A m c) a ∧ BD w (.slice A2 m2 c2) b) := ⟨⟨Below.refl _ _, hu, hv⟩⟩
  clear hu hv
  go_enter Try.func115, Try.ntmps115
  go_wp2_with (first
    | ((with_reducible refine gate_dst (N := 2) rfl ?_); (try (refine gate_guard (by rfl) ?_; dsimp only)); refine box_event ?hg (N := 2) ?hd (cs := #[.bool false, .slice A m c]) (t := 117) ?hr ?_; (case hd => rfl); (case hg => rfl); (case hr => first | (go_simp; done) | (go_simp; rfl)); intro g2 hg_ v1_ hbox hb; have ge_g2 : Aside0 (w.heap.size ≤ g2) := ⟨by rw [hg_]; exact below_size (HS.out.1)⟩; have HT : Aside0 (Below w.heap.size w v1_ ∧ BD v1_ (.slice A m c) (a) ∧ BD v1_ (.slice A2 m2 c2) (b) ∧ v1_.heap[g2]? = some (.cells #[.bool false, .slice A m c] 117 (0, 0))) := ⟨⟨below_step HS.out.1 hb, BD.below HS.out.2.1 hb, BD.below HS.out.2.2 hb, hbox⟩⟩; clear HS; have HS := HT; clear HT hb hbox hg_; have cv1__g2_0 : v1_.cell? ⟨g2, 0, none⟩ = some (.bool false) := (blk_cell (HS.out.2.2.2) 0).trans rfl; have cv1__g2_1 : v1_.cell? ⟨g2, 1, none⟩ = some (.slice A m c) := (blk_cell (HS.out.2.2.2) 1).trans rfl)
    | ((with_reducible refine gate_dst (N := 3) rfl ?_); (try (refine gate_guard (by rfl) ?_; dsimp only)); refine box_event ?hg (N := 3) ?hd (cs := #[.bool false, .slice A2 m2 c2]) (t := 117) ?hr ?_; (case hd => rfl); (case hg => rfl); (case hr => first | (go_simp; done) | (go_simp; rfl)); intro g3 hg_ v2_ hbox hb; have ge_g3 : Aside0 (w.heap.size ≤ g3) := ⟨by rw [hg_]; exact below_size (HS.out.1)⟩; have ne_g2_g3 : g2 ≠ g3 := (by rw [hg_]; exact Nat.ne_of_lt (blk_lt (HS.out.2.2.2))); have ne_g3_g2 : g3 ≠ g2 := (by rw [hg_]; exact Nat.ne_of_gt (blk_lt (HS.out.2.2.2))); have HT : Aside0 (Below w.heap.size w v2_ ∧ BD v2_ (.slice A m c) (a) ∧ BD v2_ (.slice A2 m2 c2) (b) ∧ v2_.heap[g2]? = some (.cells #[.bool false, .slice A m c] 117 (0, 0)) ∧ v2_.heap[g3]? = some (.cells #[.bool false, .slice A2 m2 c2] 117 (0, 0))) := ⟨⟨below_step HS.out.1 hb, BD.below HS.out.2.1 hb, BD.below HS.out.2.2.1 hb, blk_below HS.out.2.2.2 hb, hbox⟩⟩; clear HS; have HS := HT; clear HT hb hbox hg_; have cv2__g2_0 : v2_.cell? ⟨g2, 0, none⟩ = some (.bool false) := (blk_cell (HS.out.2.2.2.1) 0).trans rfl; have cv2__g2_1 : v2_.cell? ⟨g2, 1, none⟩ = some (.slice A m c) := (blk_cell (HS.out.2.2.2.1) 1).trans rfl; have cv2__g3_0 : v2_.cell? ⟨g3, 0, none⟩ = some (.bool false) := (blk_cell (HS.out.2.2.2.2) 0).trans rfl; have cv2__g3_1 : v2_.cell? ⟨g3, 1, none⟩ = some (.slice A2 m2 c2) := (blk_cell (HS.out.2.2.2.2) 1).trans rfl)
    | ((with_reducible refine gate_dst (N := 4) rfl ?_); (try (refine gate_guard (by rfl) ?_; dsimp only)); refine box_event ?hg (N := 4) ?hd (cs := #[.bool false, .slice none 0 0]) (t := 117) ?hr ?_; (case hd => rfl); (case hg => rfl); (case hr => first | (go_simp; done) | (go_simp; rfl)); intro g4 hg_ v3_ hbox hb; have ge_g4 : Aside0 (w.heap.size ≤ g4) := ⟨by rw [hg_]; exact below_size (HS.out.1)⟩; have ne_g2_g4 : g2 ≠ g4 := (by rw [hg_]; exact Nat.ne_of_lt (blk_lt (HS.out.2.2.2.1))); have ne_g4_g2 : g4 ≠ g2 := (by rw [hg_]; exact Nat.ne_of_gt (blk_lt (HS.out.2.2.2.1))); have ne_g3_g4 : g3 ≠ g4 := (by rw [hg_]; exact Nat.ne_of_lt (blk_lt (HS.out.2.2.2.2))); have ne_g4_g3 : g4 ≠ g3 := (by rw [hg_]; exact Nat.ne_of_gt (blk_lt (HS.out.2.2.2.2))); have HT : Aside0 (Below w.heap.size w v3_ ∧ BD v3_ (.slice A m c) (a) ∧ BD v3_ (.slice A2 m2 c2) (b) ∧ v3_.heap[g2]? = some (.cells #[.bool false, .slice A m c] 117 (0, 0)) ∧ v3_.heap[g3]? = some (.cells #[.bool false, .slice A2 m2 c2] 117 (0, 0)) ∧ v3_.heap[g4]? = some (.cells #[.bool false, .slice none 0 0] 117 (0, 0))) := ⟨⟨below_step HS.out.1 hb, BD.below HS.out.2.1 hb, BD.below HS.out.2.2.1 hb, blk_below HS.out.2.2.2.1 hb, blk_below HS.out.2.2.2.2 hb, hbox⟩⟩; clear HS; have HS := HT; clear HT hb hbox hg_; have cv3__g2_0 : v3_.cell? ⟨g2, 0, none⟩ = some (.bool false) := (blk_cell (HS.out.2.2.2.1) 0).trans rfl; have cv3__g2_1 : v3_.cell? ⟨g2, 1, none⟩ = some (.slice A m c) := (blk_cell (HS.out.2.2.2.1) 1).trans rfl; have cv3__g3_0 : v3_.cell? ⟨g3, 0, none⟩ = some (.bool false) := (blk_cell (HS.out.2.2.2.2.1) 0).trans rfl; have cv3__g3_1 : v3_.cell? ⟨g3, 1, none⟩ = some (.slice A2 m2 c2) := (blk_cell (HS.out.2.2.2.2.1) 1).trans rfl; have cv3__g4_0 : v3_.cell? ⟨g4, 0, none⟩ = some (.bool false) := (blk_cell (HS.out.2.2.2.2.2) 0).trans rfl; have zv3__g4_0 : v3_.frozen? ⟨g4, 0, none⟩ = false := blk_frozen (HS.out.2.2.2.2.2) 0; have cv3__g4_1 : v3_.cell? ⟨g4, 1, none⟩ = some (.slice none 0 0) := (blk_cell (HS.out.2.2.2.2.2) 1).trans rfl; have zv3__g4_1 : v3_.frozen? ⟨g4, 1, none⟩ = false := blk_frozen (HS.out.2.2.2.2.2) 1)
    | ((with_reducible refine gate_dst (N := 5) rfl ?_); (try (refine gate_guard (by rfl) ?_; dsimp only)); refine box_event ?hg (N := 5) ?hd (cs := #[.bool false, .slice none 0 0]) (t := 117) ?hr ?_; (case hd => rfl); (case hg => rfl); (case hr => first | (go_simp; done) | (go_simp; rfl)); intro g5 hg_ v4_ hbox hb; have ge_g5 : Aside0 (w.heap.size ≤ g5) := ⟨by rw [hg_]; exact below_size (HS.out.1)⟩; have ne_g2_g5 : g2 ≠ g5 := (by rw [hg_]; exact Nat.ne_of_lt (blk_lt (HS.out.2.2.2.1))); have ne_g5_g2 : g5 ≠ g2 := (by rw [hg_]; exact Nat.ne_of_gt (blk_lt (HS.out.2.2.2.1))); have ne_g3_g5 : g3 ≠ g5 := (by rw [hg_]; exact Nat.ne_of_lt (blk_lt (HS.out.2.2.2.2.1))); have ne_g5_g3 : g5 ≠ g3 := (by rw [hg_]; exact Nat.ne_of_gt (blk_lt (HS.out.2.2.2.2.1))); have ne_g4_g5 : g4 ≠ g5 := (by rw [hg_]; exact Nat.ne_of_lt (blk_lt (HS.out.2.2.2.2.2))); have ne_g5_g4 : g5 ≠ g4 := (by rw [hg_]; exact Nat.ne_of_gt (blk_lt (HS.out.2.2.2.2.2))); have HT : Aside0 (Below w.heap.size w v4_ ∧ BD v4_ (.slice A m c) (a) ∧ BD v4_ (.slice A2 m2 c2) (b) ∧ v4_.heap[g2]? = some (.cells #[.bool false, .slice A m c] 117 (0, 0)) ∧ v4_.heap[g3]? = some (.cells #[.bool false, .slice A2 m2 c2] 117 (0, 0)) ∧ v4_.heap[g4]? = some (.cells #[.bool false, .slice none 0 0] 117 (0, 0)) ∧ v4_.heap[g5]? = some (.cells #[.bool false, .slice none 0 0] 117 (0, 0))) := ⟨⟨below_step HS.out.1 hb, BD.below HS.out.2.1 hb, BD.below HS.out.2.2.1 hb, blk_below HS.out.2.2.2.1 hb, blk_below HS.out.2.2.2.2.1 hb, blk_below HS.out.2.2.2.2.2 hb, hbox⟩⟩; clear HS; have HS := HT; clear HT hb hbox hg_; have cv4__g2_0 : v4_.cell? ⟨g2, 0, none⟩ = some (.bool false) := (blk_cell (HS.out.2.2.2.1) 0).trans rfl; have cv4__g2_1 : v4_.cell? ⟨g2, 1, none⟩ = some (.slice A m c) := (blk_cell (HS.out.2.2.2.1) 1).trans rfl; have cv4__g3_0 : v4_.cell? ⟨g3, 0, none⟩ = some (.bool false) := (blk_cell (HS.out.2.2.2.2.1) 0).trans rfl; have cv4__g3_1 : v4_.cell? ⟨g3, 1, none⟩ = some (.slice A2 m2 c2) := (blk_cell (HS.out.2.2.2.2.1) 1).trans rfl; have cv4__g4_0 : v4_.cell? ⟨g4, 0, none⟩ = some (.bool false) := (blk_cell (HS.out.2.2.2.2.2.1) 0).trans rfl; have zv4__g4_0 : v4_.frozen? ⟨g4, 0, none⟩ = false := blk_frozen (HS.out.2.2.2.2.2.1) 0; have cv4__g4_1 : v4_.cell? ⟨g4, 1, none⟩ = some (.slice none 0 0) := (blk_cell (HS.out.2.2.2.2.2.1) 1).trans rfl; have zv4__g4_1 : v4_.frozen? ⟨g4, 1, none⟩ = false := blk_frozen (HS.out.2.2.2.2.2.1) 1; have cv4__g5_0 : v4_.cell? ⟨g5, 0, none⟩ = some (.bool false) := (blk_cell (HS.out.2.2.2.2.2.2) 0).trans rfl; have zv4__g5_0 : v4_.frozen? ⟨g5, 0, none⟩ = false := blk_frozen (HS.out.2.2.2.2.2.2) 0; have cv4__g5_1 : v4_.cell? ⟨g5, 1, none⟩ = some (.slice none 0 0) := (blk_cell (HS.out.2.2.2.2.2.2) 1).trans rfl; have zv4__g5_1 : v4_.frozen? ⟨g5, 1, none⟩ = false := blk_frozen (HS.out.2.2.2.2.2.2) 1)
    | ((with_reducible refine gate_callee (f := 111) rfl ?_); (try (refine gate_guard (by rfl) ?_; dsimp only)); refine goesL_ (some 13) rfl rfl Try.func111 (by kernel_rfl) rfl #[.slice A m c, .slice A2 m2 c2] rfl (by (try simp only [List.map_toArray, List.map_cons, List.map_nil]); first | done | rfl) ?_; (with_reducible refine (big_div0 (HS.out.2.1) (HS.out.2.2.1) HA.out H0.out HBB.out).mono ?_); rintro e v5_ ⟨Aq, mq, cq, Ar, mr, cr, rfl, hq_, hr_, hb⟩; refine ⟨_, rfl, ?_⟩; have HT : Aside0 (Below w.heap.size w v5_ ∧ BD v5_ (.slice A m c) (a) ∧ BD v5_ (.slice A2 m2 c2) (b) ∧ v5_.heap[g2]? = some (.cells #[.bool false, .slice A m c] 117 (0, 0)) ∧ v5_.heap[g3]? = some (.cells #[.bool false, .slice A2 m2 c2] 117 (0, 0)) ∧ v5_.heap[g4]? = some (.cells #[.bool false, .slice none 0 0] 117 (0, 0)) ∧ v5_.heap[g5]? = some (.cells #[.bool false, .slice none 0 0] 117 (0, 0)) ∧ BD v5_ (.slice Aq mq cq) (a / b) ∧ BD v5_ (.slice Ar mr cr) (a % b)) := ⟨⟨below_step HS.out.1 hb, BD.below HS.out.2.1 hb, BD.below HS.out.2.2.1 hb, blk_below HS.out.2.2.2.1 hb, blk_below HS.out.2.2.2.2.1 hb, blk_below HS.out.2.2.2.2.2.1 hb, blk_below HS.out.2.2.2.2.2.2 hb, hq_, hr_⟩⟩; clear HS; have HS := HT; clear HT; have cv5__g2_0 : v5_.cell? ⟨g2, 0, none⟩ = some (.bool false) := (blk_cell (HS.out.2.2.2.1) 0).trans rfl; have cv5__g2_1 : v5_.cell? ⟨g2, 1, none⟩ = some (.slice A m c) := (blk_cell (HS.out.2.2.2.1) 1).trans rfl; have cv5__g3_0 : v5_.cell? ⟨g3, 0, none⟩ = some (.bool false) := (blk_cell (HS.out.2.2.2.2.1) 0).trans rfl; have cv5__g3_1 : v5_.cell? ⟨g3, 1, none⟩ = some (.slice A2 m2 c2) := (blk_cell (HS.out.2.2.2.2.1) 1).trans rfl; have cv5__g4_0 : v5_.cell? ⟨g4, 0, none⟩ = some (.bool false) := (blk_cell (HS.out.2.2.2.2.2.1) 0).trans rfl; have zv5__g4_0 : v5_.frozen? ⟨g4, 0, none⟩ = false := blk_frozen (HS.out.2.2.2.2.2.1) 0; have cv5__g4_1 : v5_.cell? ⟨g4, 1, none⟩ = some (.slice none 0 0) := (blk_cell (HS.out.2.2.2.2.2.1) 1).trans rfl; have zv5__g4_1 : v5_.frozen? ⟨g4, 1, none⟩ = false := blk_frozen (HS.out.2.2.2.2.2.1) 1; have cv5__g5_0 : v5_.cell? ⟨g5, 0, none⟩ = some (.bool false) := (blk_cell (HS.out.2.2.2.2.2.2.1) 0).trans rfl; have zv5__g5_0 : v5_.frozen? ⟨g5, 0, none⟩ = false := blk_frozen (HS.out.2.2.2.2.2.2.1) 0; have cv5__g5_1 : v5_.cell? ⟨g5, 1, none⟩ = some (.slice none 0 0) := (blk_cell (HS.out.2.2.2.2.2.2.1) 1).trans rfl; have zv5__g5_1 : v5_.frozen? ⟨g5, 1, none⟩ = false := blk_frozen (HS.out.2.2.2.2.2.2.1) 1)
    | ((with_reducible refine gate_callee (f := 112) rfl ?_); (try (refine gate_guard (by rfl) ?_; dsimp only)); refine goesL_ (some 20) rfl rfl Try.func112 (by kernel_rfl) rfl #[.bool false, .slice Aq mq cq] rfl (by (try simp only [List.map_toArray, List.map_cons, List.map_nil]); first | done | rfl) ?_; (with_reducible refine (big_whole0 (HS.out.2.2.2.2.2.2.2.1) HSQ.out).mono ?_); rintro e v6_ ⟨Ax, mx, cx, rfl, hx_, hb⟩; refine ⟨_, rfl, ?_⟩; have HT : Aside0 (Below w.heap.size w v6_ ∧ BD v6_ (.slice A m c) (a) ∧ BD v6_ (.slice A2 m2 c2) (b) ∧ v6_.heap[g2]? = some (.cells #[.bool false, .slice A m c] 117 (0, 0)) ∧ v6_.heap[g3]? = some (.cells #[.bool false, .slice A2 m2 c2] 117 (0, 0)) ∧ v6_.heap[g4]? = some (.cells #[.bool false, .slice none 0 0] 117 (0, 0)) ∧ v6_.heap[g5]? = some (.cells #[.bool false, .slice none 0 0] 117 (0, 0)) ∧ BD v6_ (.slice Aq mq cq) (a / b) ∧ BD v6_ (.slice Ar mr cr) (a % b) ∧ BD v6_ (.slice Ax mx cx) (a / b)) := ⟨⟨below_step HS.out.1 hb, BD.below HS.out.2.1 hb, BD.below HS.out.2.2.1 hb, blk_below HS.out.2.2.2.1 hb, blk_below HS.out.2.2.2.2.1 hb, blk_below HS.out.2.2.2.2.2.1 hb, blk_below HS.out.2.2.2.2.2.2.1 hb, BD.below HS.out.2.2.2.2.2.2.2.1 hb, BD.below HS.out.2.2.2.2.2.2.2.2 hb, hx_⟩⟩; clear HS; have HS := HT; clear HT; have cv6__g2_0 : v6_.cell? ⟨g2, 0, none⟩ = some (.bool false) := (blk_cell (HS.out.2.2.2.1) 0).trans rfl; have cv6__g2_1 : v6_.cell? ⟨g2, 1, none⟩ = some (.slice A m c) := (blk_cell (HS.out.2.2.2.1) 1).trans rfl; have cv6__g3_0 : v6_.cell? ⟨g3, 0, none⟩ = some (.bool false) := (blk_cell (HS.out.2.2.2.2.1) 0).trans rfl; have cv6__g3_1 : v6_.cell? ⟨g3, 1, none⟩ = some (.slice A2 m2 c2) := (blk_cell (HS.out.2.2.2.2.1) 1).trans rfl; have cv6__g4_0 : v6_.cell? ⟨g4, 0, none⟩ = some (.bool false) := (blk_cell (HS.out.2.2.2.2.2.1) 0).trans rfl; have zv6__g4_0 : v6_.frozen? ⟨g4, 0, none⟩ = false := blk_frozen (HS.out.2.2.2.2.2.1) 0; have cv6__g4_1 : v6_.cell? ⟨g4, 1, none⟩ = some (.slice none 0 0) := (blk_cell (HS.out.2.2.2.2.2.1) 1).trans rfl; have zv6__g4_1 : v6_.frozen? ⟨g4, 1, none⟩ = false := blk_frozen (HS.out.2.2.2.2.2.1) 1; have cv6__g5_0 : v6_.cell? ⟨g5, 0, none⟩ = some (.bool false) := (blk_cell (HS.out.2.2.2.2.2.2.1) 0).trans rfl; have zv6__g5_0 : v6_.frozen? ⟨g5, 0, none⟩ = false := blk_frozen (HS.out.2.2.2.2.2.2.1) 0; have cv6__g5_1 : v6_.cell? ⟨g5, 1, none⟩ = some (.slice none 0 0) := (blk_cell (HS.out.2.2.2.2.2.2.1) 1).trans rfl; have zv6__g5_1 : v6_.frozen? ⟨g5, 1, none⟩ = false := blk_frozen (HS.out.2.2.2.2.2.2.1) 1)
    | ((with_reducible refine gate_callee (f := 112) rfl ?_); (try (refine gate_guard (by rfl) ?_; dsimp only)); refine goesL_ (some 22) rfl rfl Try.func112 (by kernel_rfl) rfl #[.bool false, .slice Ar mr cr] rfl (by (try simp only [List.map_toArray, List.map_cons, List.map_nil]); first | done | rfl) ?_; (with_reducible refine (big_whole0 (HS.out.2.2.2.2.2.2.2.2.1) HSR.out).mono ?_); rintro e v7_ ⟨Ay, my, cy, rfl, hy_, hb⟩; refine ⟨_, rfl, ?_⟩; have HT : Aside0 (Below w.heap.size w v7_ ∧ BD v7_ (.slice A m c) (a) ∧ BD v7_ (.slice A2 m2 c2) (b) ∧ v7_.heap[g2]? = some (.cells #[.bool false, .slice A m c] 117 (0, 0)) ∧ v7_.heap[g3]? = some (.cells #[.bool false, .slice A2 m2 c2] 117 (0, 0)) ∧ v7_.heap[g4]? = some (.cells #[.bool false, .slice none 0 0] 117 (0, 0)) ∧ v7_.heap[g5]? = some (.cells #[.bool false, .slice none 0 0] 117 (0, 0)) ∧ BD v7_ (.slice Aq mq cq) (a / b) ∧ BD v7_ (.slice Ar mr cr) (a % b) ∧ BD v7_ (.slice Ax mx cx) (a / b) ∧ BD v7_ (.slice Ay my cy) (a % b)) := ⟨⟨below_step HS.out.1 hb, BD.below HS.out.2.1 hb, BD.below HS.out.2.2.1 hb, blk_below HS.out.2.2.2.1 hb, blk_below HS.out.2.2.2.2.1 hb, blk_below HS.out.2.2.2.2.2.1 hb, blk_below HS.out.2.2.2.2.2.2.1 hb, BD.below HS.out.2.2.2.2.2.2.2.1 hb, BD.below HS.out.2.2.2.2.2.2.2.2.1 hb, BD.below HS.out.2.2.2.2.2.2.2.2.2 hb, hy_⟩⟩; clear HS; have HS := HT; clear HT; have cv7__g2_0 : v7_.cell? ⟨g2, 0, none⟩ = some (.bool false) := (blk_cell (HS.out.2.2.2.1) 0).trans rfl; have cv7__g2_1 : v7_.cell? ⟨g2, 1, none⟩ = some (.slice A m c) := (blk_cell (HS.out.2.2.2.1) 1).trans rfl; have cv7__g3_0 : v7_.cell? ⟨g3, 0, none⟩ = some (.bool false) := (blk_cell (HS.out.2.2.2.2.1) 0).trans rfl; have cv7__g3_1 : v7_.cell? ⟨g3, 1, none⟩ = some (.slice A2 m2 c2) := (blk_cell (HS.out.2.2.2.2.1) 1).trans rfl; have cv7__g4_0 : v7_.cell? ⟨g4, 0, none⟩ = some (.bool false) := (blk_cell (HS.out.2.2.2.2.2.1) 0).trans rfl; have zv7__g4_0 : v7_.frozen? ⟨g4, 0, none⟩ = false := blk_frozen (HS.out.2.2.2.2.2.1) 0; have cv7__g4_1 : v7_.cell? ⟨g4, 1, none⟩ = some (.slice none 0 0) := (blk_cell (HS.out.2.2.2.2.2.1) 1).trans rfl; have zv7__g4_1 : v7_.frozen? ⟨g4, 1, none⟩ = false := blk_frozen (HS.out.2.2.2.2.2.1) 1; have cv7__g5_0 : v7_.cell? ⟨g5, 0, none⟩ = some (.bool false) := (blk_cell (HS.out.2.2.2.2.2.2.1) 0).trans rfl; have zv7__g5_0 : v7_.frozen? ⟨g5, 0, none⟩ = false := blk_frozen (HS.out.2.2.2.2.2.2.1) 0; have cv7__g5_1 : v7_.cell? ⟨g5, 1, none⟩ = some (.slice none 0 0) := (blk_cell (HS.out.2.2.2.2.2.2.1) 1).trans rfl; have zv7__g5_1 : v7_.frozen? ⟨g5, 1, none⟩ = false := blk_frozen (HS.out.2.2.2.2.2.2.1) 1))
  refine bodyPost_ret (results_cc rfl _ _ g4 g5 117 117 #[.bool false, .slice Ax mx cx] #[.bool false, .slice Ay my cy] (0, 0) (0, 0) _ _ rfl (blk_far (blk_far (blk_put (blk_put (HS.out.2.2.2.2.2.1) 0 (.bool false) (cs' := #[.bool false, .slice none 0 0]) rfl) 1 (.slice Ax mx cx) (cs' := #[.bool false, .slice Ax mx cx]) rfl) ne_g4_g5 (.bool false)) ne_g4_g5 (.slice Ay my cy)) Try.underlying117 rfl (by kernel_rfl) rfl (blk_put (blk_put (blk_far (blk_far (HS.out.2.2.2.2.2.2.1) ne_g5_g4 (.bool false)) ne_g5_g4 (.slice Ax mx cx)) 0 (.bool false) (cs' := #[.bool false, .slice none 0 0]) rfl) 1 (.slice Ay my cy) (cs' := #[.bool false, .slice Ay my cy]) rfl) Try.underlying117 rfl (by kernel_rfl)) rfl ?_
  exact ⟨_, _, _, _, _, _, rfl, BD.set (b := false) (BD.set (b := false) (BD.set (b := false) (BD.set (b := false) (HS.out.2.2.2.2.2.2.2.2.2.1) (HS.out.2.2.2.2.2.1) 0 _) (blk_put (HS.out.2.2.2.2.2.1) 0 (.bool false) (cs' := #[.bool false, .slice none 0 0]) rfl) 1 _) (blk_far (blk_far (HS.out.2.2.2.2.2.2.1) ne_g5_g4 (.bool false)) ne_g5_g4 (.slice Ax mx cx)) 0 _) (blk_put (blk_far (blk_far (HS.out.2.2.2.2.2.2.1) ne_g5_g4 (.bool false)) ne_g5_g4 (.slice Ax mx cx)) 0 (.bool false) (cs' := #[.bool false, .slice none 0 0]) rfl) 1 _, BD.set (b := false) (BD.set (b := false) (BD.set (b := false) (BD.set (b := false) (HS.out.2.2.2.2.2.2.2.2.2.2) (HS.out.2.2.2.2.2.1) 0 _) (blk_put (HS.out.2.2.2.2.2.1) 0 (.bool false) (cs' := #[.bool false, .slice none 0 0]) rfl) 1 _) (blk_far (blk_far (HS.out.2.2.2.2.2.2.1) ne_g5_g4 (.bool false)) ne_g5_g4 (.slice Ax mx cx)) 0 _) (blk_put (blk_far (blk_far (HS.out.2.2.2.2.2.2.1) ne_g5_g4 (.bool false)) ne_g5_g4 (.slice Ax mx cx)) 0 (.bool false) (cs' := #[.bool false, .slice none 0 0]) rfl) 1 _, below_set (below_set (below_set (below_set (HS.out.1) ge_g4.out) ge_g4.out) ge_g5.out) ge_g5.out⟩
set_option maxHeartbeats 8000000 in
set_option maxRecDepth 100000 in
theorem big_plus0 {a b : Nat} {u v : Value} {w : World} (hu : BD w u a) (hv : BD w v b) (ha : Sm a) (hb : Sm b) :
    Calls Try.prog 118 #[.agg #[.bool false, u], .agg #[.bool false, v]] w fun e w' => ∃ A m c, e = .returned (.agg #[.bool false, .slice A m c]) ∧ BD w' (.slice A m c) (a + b) ∧ Below w.heap.size w w' := by
  have hu117 := Try.underlying117
  have HA := Aside0.mk ha
  have HBB := Aside0.mk hb
  clear ha hb
  obtain ⟨A, m, c, rfl⟩ := hu.slice
  obtain ⟨A2, m2, c2, rfl⟩ := hv.slice
  have HS : Aside0 (Below w.heap.size w w ∧ BD w (.slice A m c) a ∧ BD w (.slice A2 m2 c2) b) := ⟨⟨Below.refl _ _, hu, hv⟩⟩
  clear hu hv
  go_enter Try.func118, Try.ntmps118
  go_upto_region 2 with (first
    | ((with_reducible refine gate_dst (N := 2) rfl ?_); (try (refine gate_guard (by rfl) ?_; dsimp only)); refine box_event ?hg (N := 2) ?hd (cs := #[.bool false, .slice A m c]) (t := 117) ?hr ?_; (case hd => rfl); (case hg => rfl); (case hr => first | (go_simp; done) | (go_simp; rfl)); intro g2 hg_ v1_ hbox hb; have ge_g2 : Aside0 (w.heap.size ≤ g2) := ⟨by rw [hg_]; exact below_size (HS.out.1)⟩; have HT : Aside0 (Below w.heap.size w v1_ ∧ BD v1_ (.slice A m c) (a) ∧ BD v1_ (.slice A2 m2 c2) (b) ∧ v1_.heap[g2]? = some (.cells #[.bool false, .slice A m c] 117 (0, 0))) := ⟨⟨below_step HS.out.1 hb, BD.below HS.out.2.1 hb, BD.below HS.out.2.2 hb, hbox⟩⟩; clear HS; have HS := HT; clear HT hb hbox hg_; have cv1__g2_0 : v1_.cell? ⟨g2, 0, none⟩ = some (.bool false) := (blk_cell (HS.out.2.2.2) 0).trans rfl; have cv1__g2_1 : v1_.cell? ⟨g2, 1, none⟩ = some (.slice A m c) := (blk_cell (HS.out.2.2.2) 1).trans rfl)
    | ((with_reducible refine gate_dst (N := 3) rfl ?_); (try (refine gate_guard (by rfl) ?_; dsimp only)); refine box_event ?hg (N := 3) ?hd (cs := #[.bool false, .slice A2 m2 c2]) (t := 117) ?hr ?_; (case hd => rfl); (case hg => rfl); (case hr => first | (go_simp; done) | (go_simp; rfl)); intro g3 hg_ v2_ hbox hb; have ge_g3 : Aside0 (w.heap.size ≤ g3) := ⟨by rw [hg_]; exact below_size (HS.out.1)⟩; have ne_g2_g3 : g2 ≠ g3 := (by rw [hg_]; exact Nat.ne_of_lt (blk_lt (HS.out.2.2.2))); have ne_g3_g2 : g3 ≠ g2 := (by rw [hg_]; exact Nat.ne_of_gt (blk_lt (HS.out.2.2.2))); have HT : Aside0 (Below w.heap.size w v2_ ∧ BD v2_ (.slice A m c) (a) ∧ BD v2_ (.slice A2 m2 c2) (b) ∧ v2_.heap[g2]? = some (.cells #[.bool false, .slice A m c] 117 (0, 0)) ∧ v2_.heap[g3]? = some (.cells #[.bool false, .slice A2 m2 c2] 117 (0, 0))) := ⟨⟨below_step HS.out.1 hb, BD.below HS.out.2.1 hb, BD.below HS.out.2.2.1 hb, blk_below HS.out.2.2.2 hb, hbox⟩⟩; clear HS; have HS := HT; clear HT hb hbox hg_; have cv2__g2_0 : v2_.cell? ⟨g2, 0, none⟩ = some (.bool false) := (blk_cell (HS.out.2.2.2.1) 0).trans rfl; have cv2__g2_1 : v2_.cell? ⟨g2, 1, none⟩ = some (.slice A m c) := (blk_cell (HS.out.2.2.2.1) 1).trans rfl; have cv2__g3_0 : v2_.cell? ⟨g3, 0, none⟩ = some (.bool false) := (blk_cell (HS.out.2.2.2.2) 0).trans rfl; have cv2__g3_1 : v2_.cell? ⟨g3, 1, none⟩ = some (.slice A2 m2 c2) := (blk_cell (HS.out.2.2.2.2) 1).trans rfl)
    | ((with_reducible refine gate_dst (N := 4) rfl ?_); (try (refine gate_guard (by rfl) ?_; dsimp only)); refine box_event ?hg (N := 4) ?hd (cs := #[.bool false, .slice none 0 0]) (t := 117) ?hr ?_; (case hd => rfl); (case hg => rfl); (case hr => first | (go_simp; done) | (go_simp; rfl)); intro g4 hg_ v3_ hbox hb; have ge_g4 : Aside0 (w.heap.size ≤ g4) := ⟨by rw [hg_]; exact below_size (HS.out.1)⟩; have ne_g2_g4 : g2 ≠ g4 := (by rw [hg_]; exact Nat.ne_of_lt (blk_lt (HS.out.2.2.2.1))); have ne_g4_g2 : g4 ≠ g2 := (by rw [hg_]; exact Nat.ne_of_gt (blk_lt (HS.out.2.2.2.1))); have ne_g3_g4 : g3 ≠ g4 := (by rw [hg_]; exact Nat.ne_of_lt (blk_lt (HS.out.2.2.2.2))); have ne_g4_g3 : g4 ≠ g3 := (by rw [hg_]; exact Nat.ne_of_gt (blk_lt (HS.out.2.2.2.2))); have HT : Aside0 (Below w.heap.size w v3_ ∧ BD v3_ (.slice A m c) (a) ∧ BD v3_ (.slice A2 m2 c2) (b) ∧ v3_.heap[g2]? = some (.cells #[.bool false, .slice A m c] 117 (0, 0)) ∧ v3_.heap[g3]? = some (.cells #[.bool false, .slice A2 m2 c2] 117 (0, 0)) ∧ v3_.heap[g4]? = some (.cells #[.bool false, .slice none 0 0] 117 (0, 0))) := ⟨⟨below_step HS.out.1 hb, BD.below HS.out.2.1 hb, BD.below HS.out.2.2.1 hb, blk_below HS.out.2.2.2.1 hb, blk_below HS.out.2.2.2.2 hb, hbox⟩⟩; clear HS; have HS := HT; clear HT hb hbox hg_; have cv3__g2_0 : v3_.cell? ⟨g2, 0, none⟩ = some (.bool false) := (blk_cell (HS.out.2.2.2.1) 0).trans rfl; have cv3__g2_1 : v3_.cell? ⟨g2, 1, none⟩ = some (.slice A m c) := (blk_cell (HS.out.2.2.2.1) 1).trans rfl; have cv3__g3_0 : v3_.cell? ⟨g3, 0, none⟩ = some (.bool false) := (blk_cell (HS.out.2.2.2.2.1) 0).trans rfl; have cv3__g3_1 : v3_.cell? ⟨g3, 1, none⟩ = some (.slice A2 m2 c2) := (blk_cell (HS.out.2.2.2.2.1) 1).trans rfl; have cv3__g4_0 : v3_.cell? ⟨g4, 0, none⟩ = some (.bool false) := (blk_cell (HS.out.2.2.2.2.2) 0).trans rfl; have zv3__g4_0 : v3_.frozen? ⟨g4, 0, none⟩ = false := blk_frozen (HS.out.2.2.2.2.2) 0; have cv3__g4_1 : v3_.cell? ⟨g4, 1, none⟩ = some (.slice none 0 0) := (blk_cell (HS.out.2.2.2.2.2) 1).trans rfl; have zv3__g4_1 : v3_.frozen? ⟨g4, 1, none⟩ = false := blk_frozen (HS.out.2.2.2.2.2) 1))
  have HT : Aside0 (Below w.heap.size w v3_.drew ∧ BD v3_.drew (.slice A m c) (a) ∧ BD v3_.drew (.slice A2 m2 c2) (b) ∧ v3_.drew.heap[g2]? = some (.cells #[.bool false, .slice A m c] 117 (0, 0)) ∧ v3_.drew.heap[g3]? = some (.cells #[.bool false, .slice A2 m2 c2] 117 (0, 0)) ∧ v3_.drew.heap[g4]? = some (.cells #[.bool false, .slice none 0 0] 117 (0, 0))) := ⟨⟨below_drew1 (HS.out.1), BD.drew (HS.out.2.1), BD.drew (HS.out.2.2.1), blk_drew (HS.out.2.2.2.1), blk_drew (HS.out.2.2.2.2.1), blk_drew (HS.out.2.2.2.2.2)⟩⟩
  clear HS
  have HS := HT
  clear HT
  refine start_ (n := 9) (S := (fun W_ => W_.cell? ⟨g2, 0, none⟩ = some (.bool false) ∧ W_.cell? ⟨g2, 1, none⟩ = some (.slice A m c) ∧ W_.cell? ⟨g3, 0, none⟩ = some (.bool false) ∧ W_.cell? ⟨g3, 1, none⟩ = some (.slice A2 m2 c2))) (ds := [8]) #[false, false, false, false, false, false, false, false, false] (by kernel_rfl) rfl rfl (⟨(blk_cell (HS.out.2.2.2.1) 0).trans rfl, (blk_cell (HS.out.2.2.2.1) 1).trans rfl, (blk_cell (HS.out.2.2.2.2.1) 0).trans rfl, (blk_cell (HS.out.2.2.2.2.1) 1).trans rfl⟩) (fun hHeld => ?_)
  generalize v3_.drew = v4_ at HS hHeld ⊢
  refine pure_ (i := 0) (N := some 10) (v := ?_) (a' := ?_) #[true, false, false, false, false, false, false, false, false] rfl rfl (by kernel_rfl) (fun _ _ _ h => h) (Or.inl ⟨by rfl, ?_⟩) ?_ ?_
  rotate_left
  · intro w'
    go_simp
    with_reducible rfl
  rotate_left
  · simp only [Act.put, List.setIfInBounds_toArray, List.set_cons_zero, List.set_cons_succ, i64_w, i32_w]
    rfl
  refine take_ (i := 1) (N := some 11) (v := ?_) (a' := ?_) #[true, true, false, false, false, false, false, false, false] rfl rfl (by kernel_rfl) (fun _ _ _ h => h) (Or.inl ⟨by rfl, ?_⟩) hHeld ?_ ?_
  rotate_left
  · rintro w' ⟨s0, s1, s2, s3⟩
    go_simp
    with_reducible rfl
  rotate_left
  · simp only [Act.put, List.setIfInBounds_toArray, List.set_cons_zero, List.set_cons_succ, i64_w, i32_w]
    rfl
  refine pure_ (i := 2) (N := some 12) (v := ?_) (a' := ?_) #[true, true, true, false, false, false, false, false, false] rfl rfl (by kernel_rfl) (fun _ _ _ h => h) (Or.inl ⟨by rfl, ?_⟩) ?_ ?_
  rotate_left
  · intro w'
    go_simp
    with_reducible rfl
  rotate_left
  · simp only [Act.put, List.setIfInBounds_toArray, List.set_cons_zero, List.set_cons_succ, i64_w, i32_w]
    rfl
  refine take_ (i := 3) (N := some 13) (v := ?_) (a' := ?_) #[true, true, true, true, false, false, false, false, false] rfl rfl (by kernel_rfl) (fun _ _ _ h => h) (Or.inl ⟨by rfl, ?_⟩) hHeld ?_ ?_
  rotate_left
  · rintro w' ⟨s0, s1, s2, s3⟩
    go_simp
    with_reducible rfl
  rotate_left
  · simp only [Act.put, List.setIfInBounds_toArray, List.set_cons_zero, List.set_cons_succ, i64_w, i32_w]
    rfl
  refine pure_ (i := 4) (N := some 14) (v := ?_) (a' := ?_) #[true, true, true, true, true, false, false, false, false] rfl rfl (by kernel_rfl) (fun _ _ _ h => h) (Or.inl ⟨by rfl, ?_⟩) ?_ ?_
  rotate_left
  · intro w'
    go_simp
    with_reducible rfl
  rotate_left
  · simp only [Act.put, List.setIfInBounds_toArray, List.set_cons_zero, List.set_cons_succ, i64_w, i32_w]
    rfl
  refine take_ (i := 5) (N := some 15) (v := ?_) (a' := ?_) #[true, true, true, true, true, true, false, false, false] rfl rfl (by kernel_rfl) (fun _ _ _ h => h) (Or.inl ⟨by rfl, ?_⟩) hHeld ?_ ?_
  rotate_left
  · rintro w' ⟨s0, s1, s2, s3⟩
    go_simp
    with_reducible rfl
  rotate_left
  · simp only [Act.put, List.setIfInBounds_toArray, List.set_cons_zero, List.set_cons_succ, i64_w, i32_w]
    rfl
  refine one_ (i := 6) (N := some 16) #[true, true, true, true, true, true, true, false, false] rfl rfl (by kernel_rfl) (by decide) (fun K hK => ?_)
  refine goes_ Try.func131 (by kernel_rfl) rfl #[.slice A m c, .slice A2 m2 c2] (by rfl) rfl rfl (by (try simp only [List.map_toArray, List.map_cons, List.map_nil]); first | done | rfl) ?_
  with_reducible refine (big_add (HS.out.2.1) (HS.out.2.2.1) HA.out HBB.out).mono ?_
  rintro e v5_ ⟨As, ms, cs, rfl, hs_, hb⟩
  refine ⟨_, rfl, ?_⟩
  have HL := Aside0.mk hs_
  clear hs_
  have HT : Aside0 (Below w.heap.size w v5_ ∧ BD v5_ (.slice A m c) (a) ∧ BD v5_ (.slice A2 m2 c2) (b) ∧ v5_.heap[g2]? = some (.cells #[.bool false, .slice A m c] 117 (0, 0)) ∧ v5_.heap[g3]? = some (.cells #[.bool false, .slice A2 m2 c2] 117 (0, 0)) ∧ v5_.heap[g4]? = some (.cells #[.bool false, .slice none 0 0] 117 (0, 0))) := ⟨⟨below_step HS.out.1 hb, BD.below HS.out.2.1 hb, BD.below HS.out.2.2.1 hb, blk_below HS.out.2.2.2.1 hb, blk_below HS.out.2.2.2.2.1 hb, blk_below HS.out.2.2.2.2.2 hb⟩⟩
  clear HS
  have HS := HT
  clear HT
  refine hK.out _ _ (⟨(blk_cell (HS.out.2.2.2.1) 0).trans rfl, (blk_cell (HS.out.2.2.2.1) 1).trans rfl, (blk_cell (HS.out.2.2.2.2.1) 0).trans rfl, (blk_cell (HS.out.2.2.2.2.1) 1).trans rfl⟩) (fun hHeld => ?_)
  clear hK K
  refine norm_ (a' := ?_) ?_ ?_
  rotate_left
  · show Act.put _ (some 16) _ = _
    simp only [Act.put, List.setIfInBounds_toArray, List.set_cons_zero, List.set_cons_succ, i64_w, i32_w]
    rfl
  refine one_ (i := 7) (N := some 17) #[true, true, true, true, true, true, true, true, false] rfl rfl (by kernel_rfl) (by decide) (fun K hK => ?_)
  refine goes_ Try.func112 (by kernel_rfl) rfl #[.bool false, .slice As ms cs] (by rfl) rfl rfl (by (try simp only [List.map_toArray, List.map_cons, List.map_nil]); first | done | rfl) ?_
  with_reducible refine (big_wholeL HL.out).mono ?_
  rintro e v6_ ⟨Ax, mx, cx, rfl, hx_, hb⟩
  refine ⟨_, rfl, ?_⟩
  have HT : Aside0 (Below w.heap.size w v6_ ∧ BD v6_ (.slice A m c) (a) ∧ BD v6_ (.slice A2 m2 c2) (b) ∧ v6_.heap[g2]? = some (.cells #[.bool false, .slice A m c] 117 (0, 0)) ∧ v6_.heap[g3]? = some (.cells #[.bool false, .slice A2 m2 c2] 117 (0, 0)) ∧ v6_.heap[g4]? = some (.cells #[.bool false, .slice none 0 0] 117 (0, 0)) ∧ BD v6_ (.slice Ax mx cx) (a + b)) := ⟨⟨below_step HS.out.1 hb, BD.below HS.out.2.1 hb, BD.below HS.out.2.2.1 hb, blk_below HS.out.2.2.2.1 hb, blk_below HS.out.2.2.2.2.1 hb, blk_below HS.out.2.2.2.2.2 hb, hx_⟩⟩
  clear HS
  have HS := HT
  clear HT
  refine hK.out _ _ (⟨(blk_cell (HS.out.2.2.2.1) 0).trans rfl, (blk_cell (HS.out.2.2.2.1) 1).trans rfl, (blk_cell (HS.out.2.2.2.2.1) 0).trans rfl, (blk_cell (HS.out.2.2.2.2.1) 1).trans rfl⟩) (fun hHeld => ?_)
  clear hK K
  refine norm_ (a' := ?_) ?_ ?_
  rotate_left
  · show Act.put _ (some 17) _ = _
    simp only [Act.put, List.setIfInBounds_toArray, List.set_cons_zero, List.set_cons_succ, i64_w, i32_w]
    rfl
  refine last_ (i := 8) (N := none) #[true, true, true, true, true, true, true, true, true] rfl rfl (by kernel_rfl) (by decide) (fun K hK => ?_)
  have cv6__g2_0 : v6_.cell? ⟨g2, 0, none⟩ = some (.bool false) := (blk_cell (HS.out.2.2.2.1) 0).trans rfl
  have cv6__g2_1 : v6_.cell? ⟨g2, 1, none⟩ = some (.slice A m c) := (blk_cell (HS.out.2.2.2.1) 1).trans rfl
  have cv6__g3_0 : v6_.cell? ⟨g3, 0, none⟩ = some (.bool false) := (blk_cell (HS.out.2.2.2.2.1) 0).trans rfl
  have cv6__g3_1 : v6_.cell? ⟨g3, 1, none⟩ = some (.slice A2 m2 c2) := (blk_cell (HS.out.2.2.2.2.1) 1).trans rfl
  have cv6__g4_0 : v6_.cell? ⟨g4, 0, none⟩ = some (.bool false) := (blk_cell (HS.out.2.2.2.2.2.1) 0).trans rfl
  have zv6__g4_0 : v6_.frozen? ⟨g4, 0, none⟩ = false := blk_frozen (HS.out.2.2.2.2.2.1) 0
  have cv6__g4_1 : v6_.cell? ⟨g4, 1, none⟩ = some (.slice none 0 0) := (blk_cell (HS.out.2.2.2.2.2.1) 1).trans rfl
  have zv6__g4_1 : v6_.frozen? ⟨g4, 1, none⟩ = false := blk_frozen (HS.out.2.2.2.2.2.1) 1
  refine skip_ (w1 := ?_) (by rfl) rfl ?_ ?_
  rotate_left
  · go_simp
    rfl
  refine hK.out _ _ ?_
  clear hK K
  refine done_ (by kernel_rfl) ?_
  go_wp2_with fail
  refine bodyPost_ret (results_cell_row rfl _ _ g4 117 #[.bool false, .slice Ax mx cx] (0, 0) _ rfl (blk_put (blk_put (HS.out.2.2.2.2.2.1) 0 (.bool false) (cs' := #[.bool false, .slice none 0 0]) rfl) 1 (.slice Ax mx cx) (cs' := #[.bool false, .slice Ax mx cx]) rfl) Try.underlying117 rfl (by kernel_rfl)) rfl ?_
  exact ⟨_, _, _, rfl, BD.set (b := false) (BD.set (b := false) (HS.out.2.2.2.2.2.2) (HS.out.2.2.2.2.2.1) 0 _) (blk_put (HS.out.2.2.2.2.2.1) 0 (.bool false) (cs' := #[.bool false, .slice none 0 0]) rfl) 1 _, below_set (below_set (HS.out.1) ge_g4.out) ge_g4.out⟩
end Go.Proofs.Ythkfahkkcjagdaa
end
