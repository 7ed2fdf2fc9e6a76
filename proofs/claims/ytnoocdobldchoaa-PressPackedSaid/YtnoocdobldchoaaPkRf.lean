/- The reference's search: its memory, and what a call of it answers. -/
import Derived.Test.YtnoocdobldchoaaPkRef2
import Derived.Test.YtnoocdobldchoaaPkFits
namespace Go.Proofs.Ytnoocdobldchoaa
open Go.RowKit Go.Proofs.YtnoocdobldchoaaW.PrintWords Go.Proofs.YtnoocdobldchoaaW.PrintMore Go.Proofs.YtnoocdobldchoaaW.PrintLast

structure SM (N bs ga gl gc : Nat) (A : Option Addr) (c : Nat) (ms : List Int) (bins each most free : Int) (w : World) (bx : List (Int × Int)) (av : List Int) : Prop where
  s : Blk w bs [.slice A ms.length c, .int .i64 bins, .int .i64 each, .int .i64 most, .slice (some ⟨ga, 0, none⟩) ms.length ms.length, .slice (some ⟨gl, 0, none⟩) bx.length bx.length, .slice (some ⟨gc, 0, none⟩) bx.length bx.length, .int .i64 free] 85
  r : (Kd.int .i64).C w A ms.length ms
  ra : 0 < ms.length → ∀ ad, A = some ad → ad.block < N
  a : Blk w ga (ints av) 3
  al : av.length = ms.length
  l : Blk w gl (ints (bx.map Prod.fst)) 3
  k : Blk w gc (ints (bx.map Prod.snd)) 3
  bl : (bx.length : Int) = bins
  na : N ≤ ga
  nl : N ≤ gl
  nk : N ≤ gc
  d1 : ga ≠ gl
  d2 : ga ≠ gc
  d3 : gl ≠ gc

theorem map_fst_get (bx : List (Int × Int)) {i : Nat} (h : i < bx.length) : (ints (bx.map Prod.fst))[i]? = some (.int .i64 (bx.getD i (0, 0)).1) := by
  rw [ints_get _ (by simpa using h)]
  simp [List.getD_eq_getElem?_getD, List.getElem?_eq_getElem h]
theorem map_snd_get (bx : List (Int × Int)) {i : Nat} (h : i < bx.length) : (ints (bx.map Prod.snd))[i]? = some (.int .i64 (bx.getD i (0, 0)).2) := by
  rw [ints_get _ (by simpa using h)]
  simp [List.getD_eq_getElem?_getD, List.getElem?_eq_getElem h]

section
variable {N bs ga gl gc : Nat} {A : Option Addr} {c : Nat} {ms : List Int} {bins each most free : Int} {w w1 : World} {bx bx1 : List (Int × Int)} {av av1 : List Int}
def SS (ga gl gc : Nat) : Nat → Prop := fun i => i = ga ∨ i = gl ∨ i = gc
theorem SM.kp (h : SM N bs ga gl gc A c ms bins each most free w bx av) (hN : N ≤ w.heap.size) {S : Nat → Prop} (k : Kp S w w1) (hS : ∀ i, S i → SS ga gl gc i) (ha : Blk w1 ga (ints av1) 3) (hal : av1.length = ms.length)
    (hl : Blk w1 gl (ints (bx1.map Prod.fst)) 3) (hk : Blk w1 gc (ints (bx1.map Prod.snd)) 3) (hb : bx1.length = bx.length) : SM N bs ga gl gc A c ms bins each most free w1 bx1 av1 :=
  { h with
    s := by
      rw [hb]
      refine h.s.kp k ?_
      intro hs
      rcases hS _ hs with e | e | e
      · exact h.s.ne_of_type h.a (by decide) e
      · exact h.s.ne_of_type h.l (by decide) e
      · exact h.s.ne_of_type h.k (by decide) e
    r := C_kp h.r k fun hp ad e => ⟨Nat.lt_of_lt_of_le (h.ra hp ad e) hN, fun hs => by
      have h1 := h.ra hp ad e; have h2 := h.na; have h3 := h.nl; have h4 := h.nk
      rcases hS _ hs with h5 | h5 | h5 <;> omega⟩
    a := ha
    al := hal
    l := hl
    k := hk
    bl := by rw [hb]; exact h.bl }
theorem SM.drewN (h : SM N bs ga gl gc A c ms bins each most free w bx av) (n : Nat) : SM N bs ga gl gc A c ms bins each most free (w.drewN n) bx av := { h with }

/-- Thing i into box b. -/
theorem SM.setA (h : SM N bs ga gl gc A c ms bins each most free w bx av) (hN : N ≤ w.heap.size) (i : Nat) (v : Int) (n : Nat) : SM N bs ga gl gc A c ms bins each most free ((w.setCell ⟨ga, i, none⟩ (.int .i64 v)).drewN n) bx (av.set i v) :=
  h.kp hN (S := SS ga gl gc) (((Kp.refl _ w).setCell (fun _ => .inl rfl) _).drewN n) (fun _ h => h) ((by have := h.a.set i (.int .i64 v); rwa [ints_set] at this : Blk _ _ _ _).drewN n) (by simpa using h.al) ((h.l.far (Ne.symm h.d1) _).drewN n) ((h.k.far (Ne.symm h.d2) _).drewN n) rfl
/-- Both counts of box b are set. -/
theorem SM.setL (h : SM N bs ga gl gc A c ms bins each most free w bx av) (hN : N ≤ w.heap.size) (b : Nat) (x y : Int) (n m : Nat) :
    SM N bs ga gl gc A c ms bins each most free ((((w.setCell ⟨gl, b, none⟩ (.int .i64 x)).drewN n).setCell ⟨gc, b, none⟩ (.int .i64 y)).drewN m) (bx.set b (x, y)) av := by
  refine h.kp hN (S := SS ga gl gc) (((((Kp.refl _ w).setCell (fun _ => .inr (.inl rfl)) _).drewN n).setCell (fun _ => .inr (.inr rfl)) _).drewN m) (fun _ h => h) ((((h.a.far h.d1 _).drewN n).far h.d2 _).drewN m) h.al ?_ ?_ (by simp)
  · have := (((h.l.set b (.int .i64 x)).drewN n).far h.d3 (.int .i64 y) (p := ⟨gc, b, none⟩)).drewN m
    rw [ints_set] at this
    rwa [List.map_set]
  · have := (((h.k.far (Ne.symm h.d3) (.int .i64 x) (p := ⟨gl, b, none⟩)).drewN n).set b (.int .i64 y)).drewN m
    rw [ints_set] at this
    rwa [List.map_set]
end

def RRes (N bs ga gl gc : Nat) (A : Option Addr) (c : Nat) (ms : List Int) (bins each most free : Int) (rest : List Int) (i : Int) (used : Int) (bx : List (Int × Int)) (av : List Int) (w : World) (r : Bool) (w' : World) : Prop :=
  Kp (SS ga gl gc) w w' ∧
  match dfs most each bins rest used bx with
  | some l => r = true ∧ ∃ bx1, SM N bs ga gl gc A c ms bins each most free w' bx1 (av.take i.toNat ++ l)
  | none => r = false ∧ ∃ av1, SM N bs ga gl gc A c ms bins each most free w' bx av1 ∧ av1.take i.toNat = av.take i.toNat
def RPost (N bs ga gl gc : Nat) (A : Option Addr) (c : Nat) (ms : List Int) (bins each most free : Int) (rest : List Int) (i : Int) (used : Int) (bx : List (Int × Int)) (av : List Int) (w : World) (e : Ending) (w' : World) : Prop :=
  ∃ r, e = .returned (.bool r) ∧ RRes N bs ga gl gc A c ms bins each most free rest i used bx av w r w'
def RInv (N bs ga gl gc : Nat) (A : Option Addr) (c : Nat) (ms : List Int) (bins each most free : Int) (m : Int) (rest : List Int) (i : Int) (used : Int) (bx : List (Int × Int)) (av : List Int) (w : World) (b : Int) (wr : World) : Prop :=
  Kp (SS ga gl gc) w wr ∧ (∃ av1, SM N bs ga gl gc A c ms bins each most free wr bx av1 ∧ av1.take i.toNat = av.take i.toNat) ∧ ∀ k : Nat, (k : Int) < b → try_ most each bins m rest used bx k = none

/-- The boxes' contents, in their range: no box has more things than it takes. -/
def OKe (most each : Int) (bx : List (Int × Int)) : Prop := ∀ k, (0 ≤ (bx.getD k (0,0)).1 ∧ (bx.getD k (0,0)).1 ≤ most) ∧ 0 ≤ (bx.getD k (0,0)).2 ∧ (bx.getD k (0,0)).2 ≤ each
theorem OKe.set {most each : Int} {bx : List (Int × Int)} (h : OKe most each bx) (b : Nat) {x y : Int} (hx : 0 ≤ x ∧ x ≤ most) (hy : 0 ≤ y ∧ y ≤ each) : OKe most each (bx.set b (x, y)) := by
  intro k
  have := h k
  simp only [List.getD_eq_getElem?_getD, List.getElem?_set] at *
  by_cases hk : b = k
  · rw [if_pos hk]
    by_cases hl : b < bx.length
    · rw [if_pos hl]; simp; omega
    · rw [if_neg hl]; subst hk; simp at this ⊢; omega
  · rw [if_neg hk]; omega
end Go.Proofs.Ytnoocdobldchoaa
