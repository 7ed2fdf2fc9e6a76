/- The whole table in memory: its rows of costs and centres. -/
import Derived.Test.YthkfahkkcjagdaaC6b
namespace Go.Proofs.Ythkfahkkcjagdaa
open Go.RowKit Go.Proofs.YthkfahkkcjagdaaW.PrintWords Go.Proofs.YthkfahkkcjagdaaW.PrintMore Go.Proofs.YthkfahkkcjagdaaW.PrintLast

/-- Slices over whole blocks of n cells. -/
def sls (n : Nat) (rs : List Nat) : List Value := rs.map fun r => .slice (some ⟨r, 0, none⟩) n n
theorem sls_length (n : Nat) (rs : List Nat) : (sls n rs).length = rs.length := by simp [sls]
theorem sls_get (n : Nat) (rs : List Nat) {i : Nat} (h : i < rs.length) : (sls n rs)[i]? = some (.slice (some ⟨rs.getD i 0, 0, none⟩) n n) := by
  simp [sls, List.getD_eq_getElem?_getD, List.getElem?_eq_getElem h]
theorem OwnS.get {w : World} {N : Nat} {v : Value} {xs : List Value} (h : OwnS w N v xs) {i : Nat} {y : Value} (hy : xs[i]? = some y) : ∃ g cap, v = .slice (some ⟨g, 0, none⟩) xs.length cap ∧ xs.length ≤ cap ∧ N ≤ g ∧ w.cell? ⟨g, i, none⟩ = some y := by
  have hi : i < xs.length := (List.getElem?_eq_some_iff.1 hy).1
  rcases h.2 with ⟨_, h0⟩ | ⟨g, cap, cur, rfl, hb, hh, h1, h2, h3, h4⟩
  · omega
  · refine ⟨g, cap, rfl, h1, hb, ?_⟩
    have e1 := congrArg (fun l => l[i]?) h4

    rw [List.getElem?_take, if_pos (by omega), Array.getElem?_toList, hy] at e1
    simp [World.cell?, hh, e1]
/-- A table with so many rows. -/
structure TT (w : World) (N bt o : Nat) (A : Option Addr) (cf : Nat) (fs : List Fl) (ord : List Int) (least p : Int) (cv ev : Value) (r1s r2s : List Nat) : Prop where
  tb : TB w bt o A cf fs ord cv ev
  c : OwnS w N cv (sls (fs.length + 1) r1s)
  e : OwnS w N ev (sls (fs.length + 1) r2s)
  d : ∀ k, cv.ownBlock = some k → ev.ownBlock ≠ some k
  l : r2s.length = r1s.length
  rc : ∀ a, a < r1s.length → Blk w (r1s.getD a 0) (ints (crowF (sF fs ord) least p fs.length a)) 3
  re : ∀ a, a < r1s.length → Blk w (r2s.getD a 0) (ints (erowF (sF fs ord) p fs.length a)) 3
  hb : N ≤ bt
  ha : 0 < fs.length → ∀ ad, A = some ad → ad.block < N
section
variable {w w' : World} {N bt o : Nat} {A : Option Addr} {cf : Nat} {fs : List Fl} {ord : List Int} {least p : Int} {cv ev : Value} {r1s r2s : List Nat}
theorem getD_append_lt {l : List Nat} {x a : Nat} (h : a < l.length) : (l ++ [x]).getD a 0 = l.getD a 0 := by
  rw [List.getD_eq_getElem?_getD, List.getElem?_append_left h, ← List.getD_eq_getElem?_getD]
theorem getD_append_eq {l : List Nat} {x a : Nat} (h : a = l.length) : (l ++ [x]).getD a 0 = x := by
  subst h; simp [List.getD_eq_getElem?_getD]
theorem TT.below (h : TT w N bt o A cf fs ord least p cv ev r1s r2s) (k : Below w.heap.size w w') : TT w' N bt o A cf fs ord least p cv ev r1s r2s :=
  { h with tb := h.tb.below k, c := h.c.below k, e := h.e.below k, rc := fun a ha => (h.rc a ha).below k, re := fun a ha => (h.re a ha).below k }
theorem TT.step (h : TT w N bt o A cf fs ord least p cv ev r1s r2s) {e0 : Ending} (k : RowPost w bt o A cf fs ord cv ev N (sls (fs.length + 1) r1s) (sls (fs.length + 1) r2s) r1s.length least p e0 w') :
    e0 = .returned (.tuple #[]) ∧ ∃ cv' ev' r1 r2, TT w' N bt o A cf fs ord least p cv' ev' (r1s ++ [r1]) (r2s ++ [r2]) ∧ Kp (fun k => N ≤ k) w w' ∧ ∀ b cs t, Blk w b cs t → t ≠ 35 → t ≠ 104 → Blk w' b cs t := by
  obtain ⟨rfl, r1, r2, cv', ev', tb, hk, hc, he, hd, h1, h2, _, _⟩ := k
  have n1 : ∀ b cs t, Blk w b cs t → t ≠ 35 → t ≠ 104 → ¬ (b = bt ∨ cv.ownBlock = some b ∨ ev.ownBlock = some b) := by
    rintro b cs t hb ht ht2 (h3 | h3 | h3)
    · exact hb.ne_of_type h.tb.t ht2 h3
    · exact own_type_ne h.c hb ht h3
    · exact own_type_ne h.e hb ht h3
  refine ⟨rfl, cv', ev', r1, r2, ⟨tb, by simpa [sls] using hc, by simpa [sls] using he, hd, by simp [h.l], fun a ha => ?_, fun a ha => ?_, h.hb, h.ha⟩, hk.mono fun j hj => ?_, fun b cs t hb h1 h2 => hb.kp hk (n1 b cs t hb h1 h2)⟩
  · rw [List.length_append, List.length_singleton] at ha
    rcases (show a < r1s.length ∨ a = r1s.length by omega) with h3 | h3
    · rw [getD_append_lt h3]
      exact (h.rc a h3).kp hk (n1 _ _ _ (h.rc a h3) (by decide) (by decide))
    · rw [getD_append_eq h3, h3]; exact h1
  · rw [List.length_append, List.length_singleton] at ha
    rcases (show a < r1s.length ∨ a = r1s.length by omega) with h3 | h3
    · rw [getD_append_lt (by rw [h.l]; exact h3)]
      exact (h.re a h3).kp hk (n1 _ _ _ (h.re a h3) (by decide) (by decide))
    · rw [getD_append_eq (by rw [h.l]; exact h3), h3]; exact h2
  · rcases hj with rfl | h3 | h3
    · exact h.hb
    · exact (h.c.lt h3).1
    · exact (h.e.lt h3).1
/-- A cost, read. -/
theorem TT.cost (h : TT w N bt o A cf fs ord least p cv ev r1s r2s) {a j : Nat} (ha : a < r1s.length) (hj : j ≤ fs.length) :
    ∃ g cap, cv = .slice (some ⟨g, 0, none⟩) r1s.length cap ∧ r1s.length ≤ cap ∧ w.cell? ⟨g, a, none⟩ = some (.slice (some ⟨r1s.getD a 0, 0, none⟩) (fs.length + 1) (fs.length + 1)) ∧ w.cell? ⟨r1s.getD a 0, j, none⟩ = some (.int .i64 ((crowF (sF fs ord) least p fs.length a).getD j 0)) := by
  obtain ⟨g, cap, e1, e2, _, e3⟩ := h.c.get (sls_get (fs.length + 1) r1s ha)
  rw [sls_length] at e1 e2
  exact ⟨g, cap, e1, e2, e3, (h.rc a ha).at_ (ints_get _ (by unfold crowF; rw [crow_length]; omega))⟩
theorem TT.centre (h : TT w N bt o A cf fs ord least p cv ev r1s r2s) {a j : Nat} (ha : a < r1s.length) (hj : j ≤ fs.length) :
    ∃ g cap, ev = .slice (some ⟨g, 0, none⟩) r1s.length cap ∧ r1s.length ≤ cap ∧ w.cell? ⟨g, a, none⟩ = some (.slice (some ⟨r2s.getD a 0, 0, none⟩) (fs.length + 1) (fs.length + 1)) ∧ w.cell? ⟨r2s.getD a 0, j, none⟩ = some (.int .i64 ((erowF (sF fs ord) p fs.length a).getD j 0)) := by
  obtain ⟨g, cap, e1, e2, _, e3⟩ := h.e.get (sls_get (fs.length + 1) r2s (show a < r2s.length by rw [h.l]; exact ha))
  rw [sls_length, h.l] at e1 e2
  exact ⟨g, cap, e1, e2, e3, (h.re a ha).at_ (ints_get _ (by unfold erowF; rw [erow_length]; omega))⟩
end
/-! ### The order of the fleeces; the errors that come first -/
def ordF (fs : List Fl) : List Int := srt (fcf fs) (upto fs.length)
def errE (fs : List Fl) (l least p : Int) : Int := if 128 < fs.length then 3 else if spOK l least p = true ∧ fs.all flOK = true then 0 else 2
/-- What the laying of the table answers. -/
def LaidPost (fs : List Fl) (A : Option Addr) (cf : Nat) (l least p : Int) (w : World) (e : Ending) (w' : World) : Prop :=
  Below w.heap.size w w' ∧ if errE fs l least p = 0 then ∃ (bt o : Nat) (cv ev : Value) (r1s r2s : List Nat), e = .returned (.tuple #[.pointer (some ⟨bt, 0, none⟩), .int .i64 0]) ∧ TT w' w.heap.size bt o A cf fs (ordF fs) least p cv ev r1s r2s ∧ r1s.length = fs.length
  else e = .returned (.tuple #[.pointer none, .int .i64 (errE fs l least p)])
end Go.Proofs.Ythkfahkkcjagdaa
