/- The rule of Moore and Hodgson, plain; rows of the call's own that the library cuts and sorts. -/
import Derived.Test.YtnoocdobldchoaaJo2
import Derived.Test.YtnoocdobldchoaaShf
namespace Go.Proofs.Ytnoocdobldchoaa
open Go.RowKit Go.Proofs.YtnoocdobldchoaaW.PrintWords Go.Proofs.YtnoocdobldchoaaW.PrintMore Go.Proofs.YtnoocdobldchoaaW.PrintLast

/-- The work and the due time of a task. -/
def wk (ts : List (Int × Int)) (x : Int) : Int := (rdP ts x).1
def du (ts : List (Int × Int)) (x : Int) : Int := (rdP ts x).2
def badT (t : Int × Int) : Bool := decide (t.1 < 1) || (decide (1073741824 < t.1) || !okMin t.2)
def tasksE (ts : List (Int × Int)) : Int := if 64 < ts.length then 3 else if ts.any badT then 2 else 0
def tcf (ts : List (Int × Int)) (x y : Int) : Int := cmpI (du ts x) (du ts y)
theorem tcf_law (ts : List (Int × Int)) : CmpLaw (tcf ts) := by
  refine ⟨fun x y => ?_, fun x y z => ?_⟩
  · unfold tcf cmpI
    split <;> split <;> (try split) <;> omega
  · unfold tcf cmpI
    intro a b
    split at a <;> split at b <;> split <;> (try split) <;> (try split at a) <;> (try split at b) <;> omega
theorem tcf_neg (ts : List (Int × Int)) (x y : Int) : tcf ts x y < 0 ↔ du ts x < du ts y := by
  unfold tcf cmpI
  split
  · omega
  · split <;> omega
/-- The order by due times. -/
def tord (ts : List (Int × Int)) : List Int := srt (tcf ts) (upto ts.length)
theorem tord_perm (ts : List (Int × Int)) : (tord ts).Perm (upto ts.length) := srt_perm' _ _
theorem tord_length (ts : List (Int × Int)) : (tord ts).length = ts.length := by rw [(tord_perm ts).length_eq, upto_length]
theorem tord_mem {ts : List (Int × Int)} {x : Int} (h : x ∈ tord ts) : 0 ≤ x ∧ x < ts.length := (upto_mem _ x).1 ((tord_perm ts).mem_iff.1 h)
def sumW (ts : List (Int × Int)) (l : List Int) : Int := (l.map (wk ts)).sum
theorem sumW_cons (ts : List (Int × Int)) (x : Int) (l : List Int) : sumW ts (x :: l) = wk ts x + sumW ts l := by unfold sumW; rw [List.map_cons, List.sum_cons]
theorem sumW_append (ts : List (Int × Int)) (l m : List Int) : sumW ts (l ++ m) = sumW ts l + sumW ts m := by unfold sumW; rw [List.map_append, List.sum_append]
theorem sumW_perm (ts : List (Int × Int)) {l m : List Int} (h : l.Perm m) : sumW ts l = sumW ts m := perm_sum' (h.map _)
/-- The last of the longest works among the first of a list. -/
def worstN (ts : List (Int × Int)) (l : List Int) : Nat → Nat
  | 0 => 0
  | k + 1 => if wk ts (l.getD (worstN ts l k) 0) ≤ wk ts (l.getD k 0) then k else worstN ts l k
theorem worstN_lt (ts : List (Int × Int)) (l : List Int) : ∀ k, 0 < k → worstN ts l k < k
  | 0, h => absurd h (by omega)
  | 1, _ => by unfold worstN; split <;> (try unfold worstN) <;> omega
  | k + 2, _ => by
    have := worstN_lt ts l (k + 1) (by omega)
    unfold worstN
    split <;> omega
theorem worstN_le (ts : List (Int × Int)) (l : List Int) (k n : Nat) (h : k ≤ n) (hn : 0 < n) : worstN ts l k < n := by
  rcases Nat.eq_zero_or_pos k with rfl | h0
  · exact hn
  · have := worstN_lt ts l k h0; omega
theorem worstN_max (ts : List (Int × Int)) (l : List Int) : ∀ k j, j < k → wk ts (l.getD j 0) ≤ wk ts (l.getD (worstN ts l k) 0)
  | 0, j, h => absurd h (by omega)
  | k + 1, j, h => by
    unfold worstN
    rcases (show j < k ∨ j = k by omega) with hj | rfl
    · have := worstN_max ts l k j hj
      split
      · omega
      · exact this
    · split
      · exact Int.le_refl _
      · omega
def worst (ts : List (Int × Int)) (l : List Int) : Nat := worstN ts l l.length
/-- One task more, by due time. -/
def mhStep (ts : List (Int × Int)) (s : List Int × List Int) (i : Int) : List Int × List Int :=
  if sumW ts (s.1 ++ [i]) ≤ du ts i then (s.1 ++ [i], s.2) else ((s.1 ++ [i]).eraseIdx (worst ts (s.1 ++ [i])), s.2 ++ [(s.1 ++ [i]).getD (worst ts (s.1 ++ [i])) 0])
def mh (ts : List (Int × Int)) (o : List Int) : List Int × List Int := o.foldl (mhStep ts) ([], [])
theorem eraseIdx_perm : ∀ (l : List Int) (i : Nat), i < l.length → (l.getD i 0 :: l.eraseIdx i).Perm l
  | [], i, h => absurd h (by simp)
  | a :: l, 0, _ => by simp
  | a :: l, i + 1, h => by
    have := eraseIdx_perm l i (by simpa using h)
    rw [List.eraseIdx_cons_succ, List.getD_cons_succ]
    exact (List.Perm.swap _ _ _).trans (this.cons a)
theorem worst_lt (ts : List (Int × Int)) (l : List Int) (i : Int) : worst ts (l ++ [i]) < (l ++ [i]).length := worstN_lt _ _ _ (by simp)
theorem mhStep_perm (ts : List (Int × Int)) (s : List Int × List Int) (i : Int) : ((mhStep ts s i).1 ++ (mhStep ts s i).2).Perm (s.1 ++ s.2 ++ [i]) := by
  unfold mhStep
  split
  · dsimp only
    rw [List.append_assoc, List.append_assoc]
    exact (List.perm_append_comm (l₁ := [i])).append_left s.1
  · dsimp only
    have h := eraseIdx_perm (s.1 ++ [i]) _ (worst_lt ts s.1 i)
    rw [← List.append_assoc]
    refine (List.perm_append_comm (l₂ := [_])).trans ?_
    rw [List.singleton_append, ← List.cons_append]
    refine (h.append_right s.2).trans ?_
    rw [List.append_assoc, List.append_assoc]
    exact (List.perm_append_comm (l₁ := [i])).append_left s.1
theorem mhf_perm (ts : List (Int × Int)) : ∀ (o : List Int) (s : List Int × List Int), ((o.foldl (mhStep ts) s).1 ++ (o.foldl (mhStep ts) s).2).Perm (s.1 ++ s.2 ++ o)
  | [], s => by simp
  | i :: o, s => by
    rw [List.foldl_cons]
    refine (mhf_perm ts o _).trans ?_
    refine ((mhStep_perm ts s i).append_right o).trans ?_
    simp
theorem mh_perm (ts : List (Int × Int)) (o : List Int) : ((mh ts o).1 ++ (mh ts o).2).Perm o := mhf_perm ts o ([], [])
def doneF (ts : List (Int × Int)) : List Int := if tasksE ts = 0 then (mh ts (tord ts)).1 else []
def lateF (ts : List (Int × Int)) : List Int := if tasksE ts = 0 then (upto ts.length).filter (fun x => decide (x ∉ (mh ts (tord ts)).1)) else []
theorem sort_late (ts : List (Int × Int)) : (mh ts (tord ts)).2.mergeSort (fun x y => decide (x ≤ y)) = (upto ts.length).filter (fun x => decide (x ∉ (mh ts (tord ts)).1)) := by
  have hp := (mh_perm ts (tord ts)).trans (tord_perm ts)
  have hnd : ((mh ts (tord ts)).1 ++ (mh ts (tord ts)).2).Nodup := hp.nodup_iff.2 (upto_nodup' _)
  obtain ⟨_, hn2, hdis⟩ := List.nodup_append.1 hnd
  have hs := List.pairwise_mergeSort (le := fun x y : Int => decide (x ≤ y)) (fun a b c h1 h2 => by simp at *; omega) (fun a b => by simp; omega) (mh ts (tord ts)).2
  refine List.Perm.eq_of_pairwise (le := fun x y : Int => x ≤ y) (fun a b _ _ h1 h2 => by omega) (hs.imp (fun h => by simpa using h)) ?_ ?_
  · exact ((upto_pw ts.length).imp (fun h => Int.le_of_lt h)).filter _
  · refine (List.mergeSort_perm _ _).trans ?_
    refine (List.perm_ext_iff_of_nodup hn2 ((upto_nodup' _).filter _)).2 (fun x => ?_)
    rw [List.mem_filter, decide_eq_true_eq, ← hp.mem_iff, List.mem_append]
    constructor
    · intro h
      exact ⟨.inr h, fun h1 => hdis x h1 x h rfl⟩
    · rintro ⟨h | h, h2⟩
      · exact absurd h h2
      · exact h
/-! ### Rows -/
section
open Go.Sort Go.Lib
theorem own_put {w : World} {base g n cap q : Nat} {xs : List Int} (h : w.ownsRow base 3 1 (.slice (some ⟨g, 0, none⟩) n cap) n (ints xs)) (ys : List Int) (hy : ys.length = n) (m : Nat) (hm : m ≤ n) :
    (putRow (Value.int .i64) (Sort.ahead w q) g 0 ys.toArray).ownsRow base 3 1 (.slice (some ⟨g, 0, none⟩) m cap) m (ints (ys.take m)) ∧ w.grownBy (putRow (Value.int .i64) (Sort.ahead w q) g 0 ys.toArray) (some g) := by
  obtain ⟨hl, h2⟩ := h
  rcases h2 with ⟨e, _⟩ | ⟨g', cap', cur, e, hb, hh, hnc, hcm, hcs, htk⟩
  · cases e
  cases e
  have hblk : (putRow (Value.int .i64) (Sort.ahead w q) g 0 ys.toArray).heap[g]? = some (.cells (putCells (Value.int .i64) 0 ys.toArray cur) 3 (0, 0)) := by
    unfold putRow mapBlock
    rw [Array.getElem?_modify, if_pos rfl]
    rw [show (Sort.ahead w q).heap = w.heap from rfl, hh]
    rfl
  refine ⟨⟨by rw [ints_length, List.length_take]; omega, .inr ⟨g, cap, _, rfl, hb, hblk, by omega, hcm, by unfold putCells; simpa using hcs, ?_⟩⟩, ⟨rfl, rfl, rfl, by simp, fun k hk hne => ?_⟩⟩
  · refine List.ext_getElem? (fun j => ?_)
    rw [List.getElem?_take, Nat.mul_one]
    unfold ints
    rw [List.getElem?_map, List.getElem?_take]
    by_cases hj : j < m
    · rw [if_pos hj, if_pos hj]
      unfold putCells
      rw [Array.getElem?_toList, Array.getElem?_mapIdx, Array.getElem?_eq_getElem (by omega)]
      simp only [Option.map_some]
      rw [if_pos (by simp; omega), List.getElem?_eq_getElem (by omega)]
      simp only [Option.map_some, Nat.sub_zero]
      rw [getElem!_pos _ j (by simp; omega)]
      simp
    · rw [if_neg hj, if_neg hj]; rfl
  · unfold putRow mapBlock
    rw [Array.getElem?_modify, if_neg (fun e => hne (by rw [e]))]
    rfl
theorem own_grow {w : World} {base n : Nat} {v : Value} {xs : List Value} (h : w.ownsRow base 3 1 v n xs) (os : Array Obj) : (grow w os).ownsRow base 3 1 v n xs := by
  obtain ⟨hl, h2⟩ := h
  refine ⟨hl, ?_⟩
  rcases h2 with h | ⟨g, cap, cur, e, hb, hh, r⟩
  · exact .inl h
  · refine .inr ⟨g, cap, cur, e, hb, ?_, r⟩
    unfold grow
    have := (Array.getElem?_eq_some_iff.1 hh).1
    rw [Array.getElem?_append_left this]
    exact hh
theorem own_holds {w : World} {base g n cap : Nat} {xs : List Int} (h : w.ownsRow base 3 1 (.slice (some ⟨g, 0, none⟩) n cap) n (ints xs)) : Holds (Value.int .i64) w g 0 xs.toArray ∧ xs.length = n ∧ n ≤ cap ∧ cap ≤ maxLen ∧ g < w.heap.size := by
  obtain ⟨hl, h2⟩ := h
  rcases h2 with ⟨e, _⟩ | ⟨g', cap', cur, e, hb, hh, hnc, hcm, hcs, htk⟩
  · cases e
  cases e
  rw [ints_length] at hl
  refine ⟨fun j hj => ?_, by omega, hnc, hcm, (Array.getElem?_eq_some_iff.1 hh).1⟩
  have hj' : j < xs.length := by simpa using hj
  have e1 : cur[j]? = some (.int .i64 (xs.getD j 0)) := by
    have := congrArg (fun l => l[j]?) htk
    rw [List.getElem?_take, if_pos (by omega), Array.getElem?_toList, ints_get xs hj'] at this
    exact this
  rw [Nat.zero_add]
  refine ⟨?_, ?_⟩
  · rw [getElem!_pos _ j hj]
    simp only [World.cell?, hh, e1, List.getElem_toArray, List.getD_eq_getElem?_getD, List.getElem?_eq_getElem hj', Option.getD_some]
    rfl
  · simp [World.frozen?, hh]
abbrev RI (w : World) (base : Nat) (ok : Nat → Prop) (v : Value) (xs : List Int) : Prop := (Kd.int .i64).R 3 w base ok v xs
theorem RI_own {w : World} {base : Nat} {ok : Nat → Prop} {v : Value} {xs : List Int} (h : RI w base ok v xs) : w.ownsRow base 3 1 v xs.length (ints xs) := Kd.own_of_R h
theorem RI_of {w : World} {base : Nat} {ok : Nat → Prop} {v : Value} {xs : List Int} (h : w.ownsRow base 3 1 v xs.length (ints xs)) (hok : ∀ k, v.ownBlock = some k → ok k) : RI w base ok v xs := Kd.R_of_own h hok
theorem del_any {w : World} {base : Nat} {ok : Nat → Prop} {v : Value} {xs : List Int} (h : RI w base ok v xs) (i : Nat) (hi : i < xs.length) :
    Calls Try.prog 56 #[v, .int .i64 i, .int .i64 ((i : Int) + 1)] w fun e w' => ∃ v', e = .returned v' ∧ v'.ownBlock = v.ownBlock ∧ RI w' base ok v' (xs.eraseIdx i) ∧ w.grownBy w' v.ownBlock := by
  have ho := RI_own h
  have hok := h.1
  obtain ⟨hl, h2⟩ := id ho
  rcases h2 with ⟨e, e0⟩ | ⟨g, cap, cur, rfl, _⟩
  · omega
  obtain ⟨hH, _, hnc, hcm, _⟩ := own_holds ho
  have hc := Try.slices_Delete_int g 0 cap i (i + 1) xs w hH hnc (by unfold maxLen at hcm; omega) (by omega) (by omega)
  rw [show (((i + 1 : Nat)) : Int) = (i : Int) + 1 by omega] at hc
  refine hc.mono ?_
  rintro e w' ⟨rfl, q, rfl⟩
  have hp := own_put (q := q) ho (xs.take i ++ xs.drop (i + 1) ++ List.replicate (i + 1 - i) 0) (by simp; omega) (xs.length - 1) (by omega)
  have e1 : (xs.take i ++ xs.drop (i + 1) ++ List.replicate (i + 1 - i) 0).take (xs.length - 1) = xs.eraseIdx i := by
    rw [List.take_append_of_le_length (by simp; omega), List.take_of_length_le (by simp; omega), List.eraseIdx_eq_take_drop_succ]
  rw [e1] at hp
  refine ⟨_, rfl, rfl, RI_of ?_ (fun k hk => hok k hk), hp.2⟩
  rw [List.length_eraseIdx, if_pos hi, show xs.length - (i + 1 - i) = xs.length - 1 by omega]
  exact hp.1
theorem sort_any {w : World} {base : Nat} {ok : Nat → Prop} {v : Value} {xs : List Int} (h : RI w base ok v xs) (hx : xs.length ≤ 100000) :
    Calls Try.prog 57 #[v] w fun e w' => e = .returned (.tuple #[]) ∧ RI w' base ok v (xs.mergeSort fun x y => decide (x ≤ y)) ∧ w.grownBy w' v.ownBlock := by
  have ho := RI_own h
  have hok := h.1
  obtain ⟨hl, h2⟩ := id ho
  have hml : (xs.mergeSort fun x y => decide (x ≤ y)).length = xs.length := (List.mergeSort_perm _ _).length_eq
  rcases h2 with ⟨rfl, e0⟩ | ⟨g, cap, cur, rfl, _⟩
  · refine (Try.slices_Sort_int_none none 0 w).mono ?_
    rintro e w' ⟨rfl, rfl⟩
    have hx0 : xs = [] := List.eq_nil_of_length_eq_zero e0
    subst hx0
    exact ⟨rfl, by rw [List.mergeSort_nil]; exact h, ⟨rfl, rfl, rfl, Nat.le_refl _, fun _ _ _ => rfl⟩⟩
  obtain ⟨hH, _, hnc, hcm, hg⟩ := own_holds ho
  refine (Try.slices_Sort_int g 0 cap xs w hH hg (by omega)).mono ?_
  rintro e w' ⟨rfl, q, os, rfl⟩
  have hp := own_put (q := q) ho (xs.mergeSort fun x y => decide (x ≤ y)) hml xs.length (Nat.le_refl _)
  rw [List.take_of_length_le (by omega)] at hp
  refine ⟨rfl, RI_of ?_ hok, ?_⟩
  · rw [hml]; exact own_grow hp.1 os
  · obtain ⟨a, b, c, d, e⟩ := hp.2
    refine ⟨a, b, c, by rw [size_grow]; omega, fun k hk hne => ?_⟩
    have := e k hk hne
    rw [← this]
    unfold grow
    exact Array.getElem?_append_left (by omega)
end
end Go.Proofs.Ytnoocdobldchoaa
