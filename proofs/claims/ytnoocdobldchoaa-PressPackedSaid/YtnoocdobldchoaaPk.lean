/- The search for a packing as a plain function on lists; the memory that the search works on. -/
import Derived.Test.YtnoocdobldchoaaMem
namespace Go.Proofs.Ytnoocdobldchoaa
open Go.RowKit Go.Proofs.YtnoocdobldchoaaW.PrintWords

/-- The first way in lexicographic order: things of these masses, boxes with this content, so many of them used, at most limit of them. -/
def dfs (most each limit : Int) : List Int → Int → List (Int × Int) → Option (List Int)
  | [], _, _ => some []
  | m :: ms, used, bx => (List.range (min (used + 1) limit).toNat).findSome? fun b =>
      if most < (bx.getD b (0, 0)).1 + m ∨ (bx.getD b (0, 0)).2 = each then none
      else (dfs most each limit ms (max used ((b : Int) + 1)) (bx.set b ((bx.getD b (0, 0)).1 + m, (bx.getD b (0, 0)).2 + 1))).map ((b : Int) :: ·)

/-- One try: thing m into box b. -/
def try_ (most each limit : Int) (m : Int) (ms : List Int) (used : Int) (bx : List (Int × Int)) (b : Nat) : Option (List Int) :=
  if most < (bx.getD b (0, 0)).1 + m ∨ (bx.getD b (0, 0)).2 = each then none
  else (dfs most each limit ms (max used ((b : Int) + 1)) (bx.set b ((bx.getD b (0, 0)).1 + m, (bx.getD b (0, 0)).2 + 1))).map ((b : Int) :: ·)

theorem dfs_cons (most each limit m : Int) (ms : List Int) (used : Int) (bx : List (Int × Int)) :
    dfs most each limit (m :: ms) used bx = (List.range (min (used + 1) limit).toNat).findSome? (try_ most each limit m ms used bx) := rfl

theorem findSome_hit {α : Type} (f : Nat → Option α) {b n : Nat} {x : α} (hb : b < n) (h0 : ∀ a, a < b → f a = none) (h1 : f b = some x) : (List.range n).findSome? f = some x := by
  induction n with
  | zero => omega
  | succ n ih =>
    rw [List.range_succ, List.findSome?_append]
    by_cases hn : b < n
    · rw [ih hn]; rfl
    · have : b = n := by omega
      subst this
      rw [List.findSome?_eq_none_iff.2 (fun a ha => h0 a (List.mem_range.1 ha))]
      simp [h1]
theorem findSome_miss {α : Type} (f : Nat → Option α) {n : Nat} (h0 : ∀ a, a < n → f a = none) : (List.range n).findSome? f = none :=
  List.findSome?_eq_none_iff.2 (fun a ha => h0 a (List.mem_range.1 ha))

def flat (bx : List (Int × Int)) : List Value := bx.flatMap fun p => [.int .i64 p.1, .int .i64 p.2]
theorem flat_cons (p : Int × Int) (bx : List (Int × Int)) : flat (p :: bx) = .int .i64 p.1 :: .int .i64 p.2 :: flat bx := rfl
theorem flat_length (bx : List (Int × Int)) : (flat bx).length = 2 * bx.length := by
  induction bx with
  | nil => rfl
  | cons p bx ih => rw [flat_cons]; simp [ih]; omega
theorem flat_get0 (bx : List (Int × Int)) : ∀ i, i < bx.length → (flat bx)[i * 2]? = some (.int .i64 (bx.getD i (0, 0)).1) := by
  induction bx with
  | nil => intro i h; simp at h
  | cons p bx ih =>
    intro i h
    cases i with
    | zero => rfl
    | succ i =>
      have := ih i (by simpa using h)
      rw [flat_cons, show (i + 1) * 2 = i * 2 + 1 + 1 by omega]
      simpa using this
theorem flat_get1 (bx : List (Int × Int)) : ∀ i, i < bx.length → (flat bx)[i * 2 + 1]? = some (.int .i64 (bx.getD i (0, 0)).2) := by
  induction bx with
  | nil => intro i h; simp at h
  | cons p bx ih =>
    intro i h
    cases i with
    | zero => rfl
    | succ i =>
      have := ih i (by simpa using h)
      rw [flat_cons, show (i + 1) * 2 + 1 = i * 2 + 1 + 1 + 1 by omega]
      simpa using this
theorem flat_set (bx : List (Int × Int)) (x y : Int) : ∀ i, i < bx.length → ((flat bx).set (i * 2) (.int .i64 x)).set (i * 2 + 1) (.int .i64 y) = flat (bx.set i (x, y)) := by
  induction bx with
  | nil => intro i h; simp at h
  | cons p bx ih =>
    intro i h
    cases i with
    | zero => rfl
    | succ i =>
      have := ih i (by simpa using h)
      rw [flat_cons, show (i + 1) * 2 = i * 2 + 1 + 1 by omega]
      simp only [List.set_cons_succ, flat_cons]
      rw [this]

/-- What the search works on: the boxes that hold its variables. N: the number of the first of these blocks. -/
structure PM (N : Nat) (bm bb bmo be bg bf g : Nat) (A : Option Addr) (c : Nat) (ms : List Int) (most each : Int) (w : World) (bx : List (Int × Int)) (gv : List Int) : Prop where
  m : Blk w bm [.slice A ms.length c] 22
  r : (Kd.int .i64).C w A ms.length ms
  ra : 0 < ms.length → ∀ ad, A = some ad → ad.block < N
  b : Blk w bb (flat bx) 59
  bl : bx.length = 12
  mo : Blk w bmo [.int .i64 most] 3
  e : Blk w be [.int .i64 each] 3
  g1 : Blk w bg [.slice (some ⟨g, 0, none⟩) ms.length ms.length] 22
  g2 : Blk w g (ints gv) 3
  gl : gv.length = ms.length
  f : Blk w bf [.func (.func 41) #[] #[.pointer (some ⟨bm, 0, none⟩), .pointer (some ⟨bb, 0, none⟩), .pointer (some ⟨bmo, 0, none⟩), .pointer (some ⟨be, 0, none⟩), .pointer (some ⟨bg, 0, none⟩), .pointer (some ⟨bf, 0, none⟩)]] 60
  nb : N ≤ bb
  ng : N ≤ g
  gmo : g ≠ bmo
  ge : g ≠ be

section
variable {N bm bb bmo be bg bf g : Nat} {A : Option Addr} {c : Nat} {ms : List Int} {most each : Int} {w w1 : World} {bx bx1 : List (Int × Int)} {gv gv1 : List Int}


theorem C_of_cells {A : Option Addr} {n : Nat} {xs : List Int} (h : (Kd.int .i64).C w A n xs) (hc : 0 < n → ∀ ad, A = some ad → ∀ j, w1.cell? (ad.add j) = w.cell? (ad.add j)) : (Kd.int .i64).C w1 A n xs := by
  obtain ⟨h1, h2, h3⟩ := h
  refine ⟨h1, h2, fun hn => ?_⟩
  obtain ⟨ad, e, h4⟩ := h3 hn
  refine ⟨ad, e, fun j p hp => ?_⟩
  obtain ⟨c, h5, h6, h7⟩ := h4 j p hp
  exact ⟨c, h5, h6, fun i u hi => (hc hn ad e _).trans (h7 i u hi)⟩
theorem add_block (a : Addr) (j : Nat) : (a.add j).block = a.block := by unfold Addr.add; split <;> rfl
theorem C_kp {S : Nat → Prop} {A : Option Addr} {n : Nat} {xs : List Int} (h : (Kd.int .i64).C w A n xs) (k : Kp S w w1) (hn : 0 < n → ∀ ad, A = some ad → ad.block < w.heap.size ∧ ¬ S ad.block) : (Kd.int .i64).C w1 A n xs :=
  C_of_cells h fun hp ad e j => World.cell?_of_block (w := w) (by rw [add_block]; exact k.block _ (hn hp ad e).1 (hn hp ad e).2)
/-- Where there is an element the row lies in memory. -/
theorem C_lt {A : Option Addr} {n : Nat} {xs : List Int} (h : (Kd.int .i64).C w A n xs) : 0 < n → ∀ ad, A = some ad → ad.block < w.heap.size := by
  intro hp ad e
  obtain ⟨ad2, e2, hc⟩ := Kd.at_int h 0 (by omega) (by omega)
  rw [e] at e2
  cases e2
  have := World.block_lt_of_cell? w _ hc
  rwa [add_block] at this

theorem PM.kp (h : PM N bm bb bmo be bg bf g A c ms most each w bx gv) (hN : N ≤ w.heap.size) {S : Nat → Prop} (k : Kp S w w1) (hS : ∀ i, S i → i = bb ∨ i = g) (hbb : Blk w1 bb (flat bx1) 59) (hl : bx1.length = 12) (hg : Blk w1 g (ints gv1) 3) (hgl : gv1.length = ms.length) :
    PM N bm bb bmo be bg bf g A c ms most each w1 bx1 gv1 := by
  have ne1 : ∀ x cs t, Blk w x cs t → t ≠ 59 → x ≠ g → ¬ S x := fun x cs t hx ht hg hs => by
    rcases hS x hs with rfl | rfl
    · exact (hx.ne_of_type h.b ht) rfl
    · exact hg rfl
  have n3 : ∀ x cs t, Blk w x cs t → t ≠ 3 → x ≠ g := fun x cs t hx ht => hx.ne_of_type h.g2 ht
  exact { h with
    m := h.m.kp k (ne1 _ _ _ h.m (by decide) (n3 _ _ _ h.m (by decide)))
    r := C_kp h.r k fun hp ad e => ⟨Nat.lt_of_lt_of_le (h.ra hp ad e) hN, fun hs => by have := h.ra hp ad e; have := h.nb; have := h.ng; rcases hS _ hs with h1 | h1 <;> omega⟩
    b := hbb
    bl := hl
    mo := h.mo.kp k (ne1 _ _ _ h.mo (by decide) (Ne.symm h.gmo))
    e := h.e.kp k (ne1 _ _ _ h.e (by decide) (Ne.symm h.ge))
    g1 := h.g1.kp k (ne1 _ _ _ h.g1 (by decide) (n3 _ _ _ h.g1 (by decide)))
    g2 := hg
    gl := hgl
    f := h.f.kp k (ne1 _ _ _ h.f (by decide) (n3 _ _ _ h.f (by decide))) }
end
end Go.Proofs.Ytnoocdobldchoaa
