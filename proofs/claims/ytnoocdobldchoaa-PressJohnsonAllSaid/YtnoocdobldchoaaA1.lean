/- Plain facts on blocks of memory: a block that is known whole, and what a call leaves as it was. -/
import Derived.Test.YtnoocdobldchoaaWKept
import Derived.Test.YtnoocdobldchoaaProg
import Derived.Test.YtnoocdobldchoaaWMore
import Derived.WalkKit
import Derived.KernelRfl
import Derived.Deep.QuietTactic
import Derived.BigQuiet
import Derived.BigRegion
import Derived.RegionTactic
import Derived.Lib.Hide
import Derived.Deep.DeepCutAuto
import Derived.Deep.CutBlock
import Derived.Outline
import Derived.Test.YtnoocdobldchoaaWRepsOne
namespace Go.Proofs.Ytnoocdobldchoaa
open Go.RowKit Go.Proofs.YtnoocdobldchoaaW.PrintWords Go.Proofs.YtnoocdobldchoaaW.PrintMore Go.Proofs.YtnoocdobldchoaaW.PrintLast

/-! ### Plain facts on blocks of memory: a block that is known whole, and what a call leaves as it was. -/
/-- Block b of w holds the cells cs, of element type t, none of them frozen. -/
def Blk (w : World) (b : Nat) (cs : List Value) (t : TypeId) : Prop := w.heap[b]? = some (.cells cs.toArray t (0, 0))

section
variable {w w' : World} {b : Nat} {cs : List Value} {t : TypeId}
theorem Blk.cell (h : Blk w b cs t) (i : Nat) : w.cell? ⟨b, i, none⟩ = cs[i]? := by
  unfold Blk at h
  simp [World.cell?, h]
theorem Blk.at_ (h : Blk w b cs t) {i : Nat} {v : Value} (hv : cs[i]? = some v) : w.cell? ⟨b, i, none⟩ = some v := (h.cell i).trans hv
theorem Blk.free (h : Blk w b cs t) (i : Nat) : w.frozen? ⟨b, i, none⟩ = false := by
  unfold Blk at h
  simp [World.frozen?, h]
theorem Blk.lt (h : Blk w b cs t) : b < w.heap.size := lt_of_block h
theorem Blk.set (h : Blk w b cs t) (i : Nat) (v : Value) : Blk (w.setCell ⟨b, i, none⟩ v) b (cs.set i v) t := by
  unfold Blk at *
  simp [World.setCell, Array.getElem?_modify, h]
theorem Blk.far (h : Blk w b cs t) {p : Addr} (hp : b ≠ p.block) (v : Value) : Blk (w.setCell p v) b cs t := (Below.heap_setCell w p v b hp).trans h
theorem Blk.alloc (h : Blk w b cs t) (o : Obj) : Blk (w.alloc o) b cs t := (Below.heap_alloc w o b h.lt).trans h
theorem Blk.new (w : World) (cs : List Value) (t : TypeId) : Blk (w.alloc (.cells cs.toArray t)) w.heap.size cs t := by
  unfold Blk
  show (w.heap.push _)[w.heap.size]? = _
  simp
theorem Blk.drewN (h : Blk w b cs t) (n : Nat) : Blk (w.drewN n) b cs t := h
theorem Blk.drew (h : Blk w b cs t) : Blk w.drew b cs t := h
theorem Blk.ne_of_type {b' : Nat} {cs' : List Value} {t' : TypeId} (h : Blk w b cs t) (h' : Blk w b' cs' t') (ht : t ≠ t') : b ≠ b' := by
  rintro rfl
  unfold Blk at *
  rw [h] at h'
  injection h' with h'
  injection h' with _ h2
  exact ht h2
end

/-- All but the blocks of S (and what is new) is as it was. -/
structure Kp (S : Nat → Prop) (w w' : World) : Prop where
  os : w'.os = w.os
  tape : w'.tape = w.tape
  output : w'.output = w.output
  size : w.heap.size ≤ w'.heap.size
  block : ∀ k, k < w.heap.size → ¬ S k → w'.heap[k]? = w.heap[k]?

section
variable {S T : Nat → Prop} {w w1 w2 : World}
theorem Kp.refl (S : Nat → Prop) (w : World) : Kp S w w := ⟨rfl, rfl, rfl, Nat.le_refl _, fun _ _ _ => rfl⟩
theorem Kp.trans (h : Kp S w w1) (k : Kp T w1 w2) (hs : ∀ i, i < w.heap.size → T i → S i) : Kp S w w2 :=
  ⟨k.os.trans h.os, k.tape.trans h.tape, k.output.trans h.output, Nat.le_trans h.size k.size,
   fun i hi hn => (k.block i (Nat.lt_of_lt_of_le hi h.size) (fun ht => hn (hs i hi ht))).trans (h.block i hi hn)⟩
theorem Kp.step (h : Kp S w w1) (k : Kp S w1 w2) : Kp S w w2 := h.trans k (fun _ _ hs => hs)
theorem Kp.mono (h : Kp S w w1) (hs : ∀ i, S i → T i) : Kp T w w1 := ⟨h.os, h.tape, h.output, h.size, fun i hi hn => h.block i hi (fun hk => hn (hs i hk))⟩
theorem Kp.mono' (h : Kp S w w1) (hs : ∀ i, i < w.heap.size → S i → T i) : Kp T w w1 := ⟨h.os, h.tape, h.output, h.size, fun i hi hn => h.block i hi (fun hk => hn (hs i hi hk))⟩
theorem Kp.alloc (h : Kp S w w1) (o : Obj) : Kp S w (w1.alloc o) :=
  ⟨h.os, h.tape, h.output, by simp; have := h.size; omega, fun i hi hn => (Below.heap_alloc w1 o i (Nat.lt_of_lt_of_le hi h.size)).trans (h.block i hi hn)⟩
theorem Kp.setCell (h : Kp S w w1) {p : Addr} (hp : p.block < w.heap.size → S p.block) (v : Value) : Kp S w (w1.setCell p v) :=
  ⟨h.os, h.tape, h.output, by simp; exact h.size, fun i hi hn => (Below.heap_setCell w1 p v i (fun e => hn (e ▸ hp (e ▸ hi)))).trans (h.block i hi hn)⟩
theorem Kp.drew (h : Kp S w w1) : Kp S w w1.drew := ⟨h.os, h.tape, h.output, h.size, h.block⟩
theorem Kp.drewN (h : Kp S w w1) (n : Nat) : Kp S w (w1.drewN n) := ⟨h.os, h.tape, h.output, h.size, h.block⟩
theorem Kp.of_below (h : Below w.heap.size w w1) : Kp S w w1 := ⟨h.os, h.tape, h.output, h.size, fun i hi _ => h.block i hi⟩
theorem Kp.below (h : Kp (fun _ => False) w w1) : Below w.heap.size w w1 := ⟨h.os, h.tape, h.output, h.size, fun i hi => h.block i hi id⟩
/-- What was written is new since: nothing that was there has turned. -/
theorem Kp.below_of (h : Kp S w w1) (hs : ∀ i, S i → w.heap.size ≤ i) : Below w.heap.size w w1 :=
  ⟨h.os, h.tape, h.output, h.size, fun i hi => h.block i hi (fun hk => by have := hs i hk; omega)⟩
theorem Kp.kept (h : Kp S w w1) : Kept w w1 S := ⟨h.size, h.block⟩
theorem Kp.then_below (h : Kp S w w1) (k : Below w1.heap.size w1 w2) : Kp S w w2 := h.trans (Kp.of_below (S := fun _ => False) k) (fun _ _ hf => hf.elim)
theorem Blk.kp {b : Nat} {cs : List Value} {t : TypeId} (h : Blk w b cs t) (k : Kp S w w1) (hn : ¬ S b) : Blk w1 b cs t := (k.block b h.lt hn).trans h
theorem Blk.below {b : Nat} {cs : List Value} {t : TypeId} (h : Blk w b cs t) (k : Below w.heap.size w w1) : Blk w1 b cs t := (k.block b h.lt).trans h
theorem Kp.cell (k : Kp S w w1) {a : Addr} {v : Value} (h : w.cell? a = some v) (hn : ¬ S a.block) : w1.cell? a = some v :=
  (World.cell?_of_block (w := w) (k.block a.block (World.block_lt_of_cell? w a h) hn)).trans h
end

def ints (xs : List Int) : List Value := xs.map fun x => .int .i64 x
theorem ints_length (xs : List Int) : (ints xs).length = xs.length := by simp [ints]
theorem ints_get (xs : List Int) {i : Nat} (h : i < xs.length) : (ints xs)[i]? = some (.int .i64 (xs.getD i 0)) := by
  simp [ints, List.getD_eq_getElem?_getD, List.getElem?_eq_getElem h]
theorem ints_set (xs : List Int) (i : Nat) (v : Int) : (ints xs).set i (.int .i64 v) = ints (xs.set i v) := by
  simp [ints, List.map_set]

/-! ### The search for a packing as a plain function on lists; the memory that the search works on. -/
/-- The first way in lexicographic order: things of these masses, boxes with this content, so many of them used, at most limit of them. -/
def dfs (most each limit : Int) : List Int → Int → List (Int × Int) → Option (List Int)
  | [], _, _ => some []
  | m :: ms, used, bx => (List.range (min (used + 1) limit).toNat).findSome? fun b =>
      if most < (bx.getD b (0, 0)).1 + m ∨ (bx.getD b (0, 0)).2 = each then none
      else (dfs most each limit ms (max used ((b : Int) + 1)) (bx.set b ((bx.getD b (0, 0)).1 + m, (bx.getD b (0, 0)).2 + 1))).map ((b : Int) :: ·)

/-- One try: thing m into box b. -/
def try_ (most each limit : Int) (m : Int) (ms : List Int) (used : Int) (bx : List (Int × Int)) (b : Nat) : Option (List Int) :=
  if most < (bx.getD b (0, 0)).1 + m ∨ (bx.getD b (0, 0)).2 = each then none
  else (dfs most each limit ms (max used ((b : Int) + 1)) (bx.set b ((bx.getD b (0, 0)).1 + m, (bx.getD b (0, 0)).2 + 1))).map ((b : Int) :: ·)

theorem dfs_cons (most each limit m : Int) (ms : List Int) (used : Int) (bx : List (Int × Int)) :
    dfs most each limit (m :: ms) used bx = (List.range (min (used + 1) limit).toNat).findSome? (try_ most each limit m ms used bx) := rfl

theorem findSome_hit {α : Type} (f : Nat → Option α) {b n : Nat} {x : α} (hb : b < n) (h0 : ∀ a, a < b → f a = none) (h1 : f b = some x) : (List.range n).findSome? f = some x := by
  induction n with
  | zero => omega
  | succ n ih =>
    rw [List.range_succ, List.findSome?_append]
    by_cases hn : b < n
    · rw [ih hn]; rfl
    · have : b = n := by omega
      subst this
      rw [List.findSome?_eq_none_iff.2 (fun a ha => h0 a (List.mem_range.1 ha))]
      simp [h1]
theorem findSome_miss {α : Type} (f : Nat → Option α) {n : Nat} (h0 : ∀ a, a < n → f a = none) : (List.range n).findSome? f = none :=
  List.findSome?_eq_none_iff.2 (fun a ha => h0 a (List.mem_range.1 ha))

def flat (bx : List (Int × Int)) : List Value := bx.flatMap fun p => [.int .i64 p.1, .int .i64 p.2]
theorem flat_cons (p : Int × Int) (bx : List (Int × Int)) : flat (p :: bx) = .int .i64 p.1 :: .int .i64 p.2 :: flat bx := rfl
theorem flat_length (bx : List (Int × Int)) : (flat bx).length = 2 * bx.length := by
  induction bx with
  | nil => rfl
  | cons p bx ih => rw [flat_cons]; simp [ih]; omega
theorem flat_get0 (bx : List (Int × Int)) : ∀ i, i < bx.length → (flat bx)[i * 2]? = some (.int .i64 (bx.getD i (0, 0)).1) := by
  induction bx with
  | nil => intro i h; simp at h
  | cons p bx ih =>
    intro i h
    cases i with
    | zero => rfl
    | succ i =>
      have := ih i (by simpa using h)
      rw [flat_cons, show (i + 1) * 2 = i * 2 + 1 + 1 by omega]
      simpa using this
theorem flat_get1 (bx : List (Int × Int)) : ∀ i, i < bx.length → (flat bx)[i * 2 + 1]? = some (.int .i64 (bx.getD i (0, 0)).2) := by
  induction bx with
  | nil => intro i h; simp at h
  | cons p bx ih =>
    intro i h
    cases i with
    | zero => rfl
    | succ i =>
      have := ih i (by simpa using h)
      rw [flat_cons, show (i + 1) * 2 + 1 = i * 2 + 1 + 1 + 1 by omega]
      simpa using this
theorem flat_set (bx : List (Int × Int)) (x y : Int) : ∀ i, i < bx.length → ((flat bx).set (i * 2) (.int .i64 x)).set (i * 2 + 1) (.int .i64 y) = flat (bx.set i (x, y)) := by
  induction bx with
  | nil => intro i h; simp at h
  | cons p bx ih =>
    intro i h
    cases i with
    | zero => rfl
    | succ i =>
      have := ih i (by simpa using h)
      rw [flat_cons, show (i + 1) * 2 = i * 2 + 1 + 1 by omega]
      simp only [List.set_cons_succ, flat_cons]
      rw [this]

/-- What the search works on: the boxes that hold its variables. N: the number of the first of these blocks. -/
structure PM (N : Nat) (bm bb bmo be bg bf g : Nat) (A : Option Addr) (c : Nat) (ms : List Int) (most each : Int) (w : World) (bx : List (Int × Int)) (gv : List Int) : Prop where
  m : Blk w bm [.slice A ms.length c] 22
  r : (Kd.int .i64).C w A ms.length ms
  ra : 0 < ms.length → ∀ ad, A = some ad → ad.block < N
  b : Blk w bb (flat bx) 59
  bl : bx.length = 12
  mo : Blk w bmo [.int .i64 most] 3
  e : Blk w be [.int .i64 each] 3
  g1 : Blk w bg [.slice (some ⟨g, 0, none⟩) ms.length ms.length] 22
  g2 : Blk w g (ints gv) 3
  gl : gv.length = ms.length
  f : Blk w bf [.func (.func 41) #[] #[.pointer (some ⟨bm, 0, none⟩), .pointer (some ⟨bb, 0, none⟩), .pointer (some ⟨bmo, 0, none⟩), .pointer (some ⟨be, 0, none⟩), .pointer (some ⟨bg, 0, none⟩), .pointer (some ⟨bf, 0, none⟩)]] 60
  nb : N ≤ bb
  ng : N ≤ g
  gmo : g ≠ bmo
  ge : g ≠ be

section
variable {N bm bb bmo be bg bf g : Nat} {A : Option Addr} {c : Nat} {ms : List Int} {most each : Int} {w w1 : World} {bx bx1 : List (Int × Int)} {gv gv1 : List Int}


theorem C_of_cells {A : Option Addr} {n : Nat} {xs : List Int} (h : (Kd.int .i64).C w A n xs) (hc : 0 < n → ∀ ad, A = some ad → ∀ j, w1.cell? (ad.add j) = w.cell? (ad.add j)) : (Kd.int .i64).C w1 A n xs := by
  obtain ⟨h1, h2, h3⟩ := h
  refine ⟨h1, h2, fun hn => ?_⟩
  obtain ⟨ad, e, h4⟩ := h3 hn
  refine ⟨ad, e, fun j p hp => ?_⟩
  obtain ⟨c, h5, h6, h7⟩ := h4 j p hp
  exact ⟨c, h5, h6, fun i u hi => (hc hn ad e _).trans (h7 i u hi)⟩
theorem add_block (a : Addr) (j : Nat) : (a.add j).block = a.block := by unfold Addr.add; split <;> rfl
theorem C_kp {S : Nat → Prop} {A : Option Addr} {n : Nat} {xs : List Int} (h : (Kd.int .i64).C w A n xs) (k : Kp S w w1) (hn : 0 < n → ∀ ad, A = some ad → ad.block < w.heap.size ∧ ¬ S ad.block) : (Kd.int .i64).C w1 A n xs :=
  C_of_cells h fun hp ad e j => World.cell?_of_block (w := w) (by rw [add_block]; exact k.block _ (hn hp ad e).1 (hn hp ad e).2)
/-- Where there is an element the row lies in memory. -/
theorem C_lt {A : Option Addr} {n : Nat} {xs : List Int} (h : (Kd.int .i64).C w A n xs) : 0 < n → ∀ ad, A = some ad → ad.block < w.heap.size := by
  intro hp ad e
  obtain ⟨ad2, e2, hc⟩ := Kd.at_int h 0 (by omega) (by omega)
  rw [e] at e2
  cases e2
  have := World.block_lt_of_cell? w _ hc
  rwa [add_block] at this

theorem PM.kp (h : PM N bm bb bmo be bg bf g A c ms most each w bx gv) (hN : N ≤ w.heap.size) {S : Nat → Prop} (k : Kp S w w1) (hS : ∀ i, S i → i = bb ∨ i = g) (hbb : Blk w1 bb (flat bx1) 59) (hl : bx1.length = 12) (hg : Blk w1 g (ints gv1) 3) (hgl : gv1.length = ms.length) :
    PM N bm bb bmo be bg bf g A c ms most each w1 bx1 gv1 := by
  have ne1 : ∀ x cs t, Blk w x cs t → t ≠ 59 → x ≠ g → ¬ S x := fun x cs t hx ht hg hs => by
    rcases hS x hs with rfl | rfl
    · exact (hx.ne_of_type h.b ht) rfl
    · exact hg rfl
  have n3 : ∀ x cs t, Blk w x cs t → t ≠ 3 → x ≠ g := fun x cs t hx ht => hx.ne_of_type h.g2 ht
  exact { h with
    m := h.m.kp k (ne1 _ _ _ h.m (by decide) (n3 _ _ _ h.m (by decide)))
    r := C_kp h.r k fun hp ad e => ⟨Nat.lt_of_lt_of_le (h.ra hp ad e) hN, fun hs => by have := h.ra hp ad e; have := h.nb; have := h.ng; rcases hS _ hs with h1 | h1 <;> omega⟩
    b := hbb
    bl := hl
    mo := h.mo.kp k (ne1 _ _ _ h.mo (by decide) (Ne.symm h.gmo))
    e := h.e.kp k (ne1 _ _ _ h.e (by decide) (Ne.symm h.ge))
    g1 := h.g1.kp k (ne1 _ _ _ h.g1 (by decide) (n3 _ _ _ h.g1 (by decide)))
    g2 := hg
    gl := hgl
    f := h.f.kp k (ne1 _ _ _ h.f (by decide) (n3 _ _ _ h.f (by decide))) }
end

/-! ### The checks of masses and boxes: what the program's functions answer. -/
theorem things1_any (w : World) (x most : Int) (b : Nat) (h : w.cell? ⟨b, 0, none⟩ = some (.int .i64 most)) :
    Calls Try.prog 67 #[.int .i64 x, .pointer (some ⟨b, 0, none⟩)] w fun e w' => e = .returned (.bool (decide (most < x))) ∧ w = w' := by
  go_enter Try.func67, Try.ntmps67
  go_wp2_with fail
  go_ret
  exact ⟨rfl, rfl⟩

/-- The first index, from i on, at which p holds; -1 if there is none. -/
def idxFrom (p : Int → Bool) (i : Int) : List Int → Int
  | [] => -1
  | x :: xs => if p x then i else idxFrom p (i + 1) xs
theorem idxFrom_hit {p : Int → Bool} {i x : Int} {xs : List Int} (h : p x = true) : idxFrom p i (x :: xs) = i := by unfold idxFrom; rw [if_pos h]
theorem idxFrom_miss {p : Int → Bool} {i x : Int} {xs : List Int} (h : p x = false) : idxFrom p i (x :: xs) = idxFrom p (i + 1) xs := by
  rw [idxFrom, if_neg (by simp [h])]
theorem ret_int {k : IntKind} {a b : Int} (h : a = b) : Ending.returned (.int k a) = .returned (.int k b) := by rw [h]
theorem ret_bool {a b : Bool} (h : a = b) : Ending.returned (.bool a) = .returned (.bool b) := by rw [h]
theorem idxFrom_any (p : Int → Bool) : ∀ (xs : List Int) (i : Int), 0 ≤ i → (0 ≤ idxFrom p i xs ↔ xs.any p = true) := by
  intro xs
  induction xs with
  | nil => intro i _; simp [idxFrom]
  | cons x xs ih =>
    intro i h
    unfold idxFrom
    by_cases hp : p x = true
    · simp [hp, h]
    · simp only [hp, List.any_cons, Bool.false_or]
      simpa [hp] using ih (i + 1) (by omega)
theorem drop_rd (xs : List Int) (i : Int) (h0 : 0 ≤ i) (h : i < xs.length) : xs.drop i.toNat = rd xs i :: xs.drop (i + 1).toNat := by
  have hl : i.toNat < xs.length := by omega
  rw [List.drop_eq_getElem_cons hl, show (i + 1).toNat = i.toNat + 1 by omega]
  simp [rd, List.getD_eq_getElem?_getD, List.getElem?_eq_getElem hl]

set_option maxHeartbeats 400000 in
theorem indexFunc_any (w : World) (A : Option Addr) (c : Nat) (xs : List Int) (h : (Kd.int .i64).C w A xs.length xs) (b : Nat) (p : Int → Bool)
    (hp : ∀ x, Calls Try.prog 67 #[.int .i64 x, .pointer (some ⟨b, 0, none⟩)] w fun e w' => e = .returned (.bool (p x)) ∧ w = w') :
    Calls Try.prog 78 #[.slice A xs.length c, .func (.func 67) #[] #[.pointer (some ⟨b, 0, none⟩)]] w fun e w' => e = .returned (.int .i64 (idxFrom p 0 xs)) ∧ w = w' := by
  have hl := Kd.C_max h
  have HR := Aside0.mk h; clear h
  have HP := Aside0.mk hp; clear hp
  go_enter Try.func78, Try.ntmps78
  go_wp2_with fail
  go_loop [8] (fun v => ∃ i : Int, v = .int .i64 i ∧ 0 ≤ i ∧ i ≤ xs.length ∧ Aside0 (idxFrom p i (xs.drop i.toNat) = idxFrom p 0 xs)) (fun v => xs.length - (intOf v).toNat)
  case atStart => exact ⟨0, rfl, by omega, by omega, ⟨rfl⟩⟩
  case round =>
    obtain ⟨i, rfl, h0, h1, he⟩ := hrel
    by_cases hlt : i < xs.length
    · obtain ⟨ad, e1, g3⟩ := Kd.at_int HR.out i h0 hlt
      subst e1
      go_wp2_with ((with_reducible refine (HP.out _).mono ?_); rintro e5 w5 ⟨rfl, rfl⟩)
      · rename_i hb
        go_ret
        have := he.out
        rw [drop_rd xs i h0 hlt, idxFrom_hit hb] at this
        exact ⟨ret_int this, rfl⟩
      · rename_i hb
        go_round
        case rel =>
          have := he.out
          rw [drop_rd xs i h0 hlt, idxFrom_miss hb] at this
          exact ⟨i + 1, by go_num, by omega, by omega, ⟨this⟩⟩
        case measure => simp [intOf]; omega
    · go_wp2_with fail
      go_ret
      have := he.out
      rw [show i.toNat = xs.length by omega, List.drop_length] at this
      exact ⟨ret_int this, rfl⟩

theorem containsFunc_any (w : World) (A : Option Addr) (c : Nat) (xs : List Int) (h : (Kd.int .i64).C w A xs.length xs) (b : Nat) (p : Int → Bool)
    (hp : ∀ x, Calls Try.prog 67 #[.int .i64 x, .pointer (some ⟨b, 0, none⟩)] w fun e w' => e = .returned (.bool (p x)) ∧ w = w') :
    Calls Try.prog 66 #[.slice A xs.length c, .func (.func 67) #[] #[.pointer (some ⟨b, 0, none⟩)]] w fun e w' => e = .returned (.bool (xs.any p)) ∧ w = w' := by
  have hi := Aside0.mk (indexFunc_any w A c xs h b p hp)
  clear hp h
  go_enter Try.func66, Try.ntmps66
  go_wp2_with ((with_reducible refine hi.out.mono ?_); rintro e5 w5 ⟨rfl, rfl⟩)
  go_ret
  have := idxFrom_any p xs 0 (by omega)
  exact ⟨ret_bool (by rw [Bool.eq_iff_iff, ← this]; simp), rfl⟩

/-- The error of masses and boxes. -/
def thingsE (ms : List Int) (most each : Int) : Int :=
  if 12 < ms.length then 3 else if most < 1 ∨ 1073741824 < most ∨ each < 1 ∨ 12 < each then 2
  else if ms.any (fun m => decide (m < 1) || decide (1073741824 < m)) then 2
  else if ms.any (fun m => decide (most < m)) then 13 else 0

set_option maxHeartbeats 1000000 in
theorem things_any (w : World) (A : Option Addr) (c : Nat) (ms : List Int) (most each : Int) (h : (Kd.int .i64).C w A ms.length ms) :
    Calls Try.prog 40 #[.slice A ms.length c, .int .i64 most, .int .i64 each] w fun e w' => e = .returned (.int .i64 (thingsE ms most each)) ∧ Below w.heap.size w w' := by
  have hl := Kd.C_max h
  have hb := below_alloc (Below.refl w.heap.size w) (.cells #[.int .i64 most] 3)
  have HR := Aside0.mk (Kd.C_below h hb)
  have b0 := Blk.new w [.int .i64 most] 3
  have hc0 := b0.at_ (i := 0) rfl
  have hw0 := b0.lt
  clear h b0
  obtain ⟨e0, he0⟩ : ∃ z, z = thingsE ms most each := ⟨_, rfl⟩
  rw [← he0]
  by_cases hlen : 12 < ms.length
  · unfold thingsE at he0
    rw [if_pos hlen] at he0
    have hlen' : (12 : Int) < ms.length := by omega
    subst he0
    go_enter Try.func40, Try.ntmps40
    go_wp2_with fail
    go_ret
    exact ⟨rfl, hb⟩
  by_cases hp : most < 1 ∨ 1073741824 < most ∨ each < 1 ∨ 12 < each
  · unfold thingsE at he0
    rw [if_neg hlen, if_pos hp] at he0
    subst he0
    go_enter Try.func40, Try.ntmps40
    go_wp2_with fail
    all_goals first | (exfalso; omega) | (go_ret; exact ⟨rfl, hb⟩)
  have HE := Aside0.mk he0; clear he0
  go_enter Try.func40, Try.ntmps40
  go_wp2_with fail
  all_goals try (exfalso; omega)
  go_loop [28] (fun v => ∃ i : Int, v = .int .i64 i ∧ 0 ≤ i ∧ i ≤ ms.length ∧ Aside0 ((ms.drop i.toNat).any (fun m => decide (m < 1) || decide (1073741824 < m)) = ms.any (fun m => decide (m < 1) || decide (1073741824 < m)))) (fun v => ms.length - (intOf v).toNat)
  case atStart => exact ⟨0, rfl, by omega, by omega, ⟨rfl⟩⟩
  case round =>
    obtain ⟨i, rfl, h0, h1, he⟩ := hrel
    by_cases hlt : i < ms.length
    · obtain ⟨ad, e1, g3⟩ := Kd.at_int HR.out i h0 hlt
      subst e1
      by_cases hbad : rd ms i < 1 ∨ 1073741824 < rd ms i
      · have hE : e0 = 2 := by
          have h2 := he.out
          rw [drop_rd ms i h0 hlt, List.any_cons] at h2
          rw [HE.out]; unfold thingsE
          rw [if_neg hlen, if_neg hp, ← h2, if_pos]
          simp only [Bool.or_eq_true, decide_eq_true_eq]
          exact .inl hbad
        subst hE
        go_wp2_with fail
        all_goals first | (exfalso; omega) | (go_ret; exact ⟨rfl, hb⟩)
      · go_wp2_with fail
        all_goals try (exfalso; omega)
        go_round
        case rel =>
          refine ⟨i + 1, by go_num, by omega, by omega, ⟨?_⟩⟩
          rw [← he.out, drop_rd ms i h0 hlt, List.any_cons]
          have e1 : decide (rd ms i < 1) = false := by simp; omega
          have e2 : decide (1073741824 < rd ms i) = false := by simp; omega
          rw [e1, e2]; rfl
        case measure => simp [intOf]; omega
    · have hE : e0 = if ms.any (fun m => decide (most < m)) then 13 else 0 := by
        have h2 := he.out
        rw [show i.toNat = ms.length by omega, List.drop_length] at h2
        rw [HE.out]; unfold thingsE
        rw [if_neg hlen, if_neg hp, ← h2, if_neg (by simp)]
      have hcf := Aside0.mk (containsFunc_any _ A c ms HR.out w.heap.size (fun m => decide (most < m)) (fun x => things1_any _ x most _ hc0))
      clear HE he
      have HE := Aside0.mk hE; clear hE
      cases ha : ms.any (fun m => decide (most < m)) with
      | true =>
        go_wp2_with ((with_reducible refine hcf.out.mono ?_); rintro e5 w5 ⟨rfl, rfl⟩)
        go_ret
        exact ⟨ret_int (by rw [HE.out, ha]; rfl), hb⟩
      | false =>
        go_wp2_with ((with_reducible refine hcf.out.mono ?_); rintro e5 w5 ⟨rfl, rfl⟩)
        go_ret
        exact ⟨ret_int (by rw [HE.out, ha]; rfl), hb⟩

/-! ### The lower bound on boxes as a plain function, and the bounds on its parts. -/
/-- What one mass adds: large, middle, held, small. -/
def bstep (most a : Int) (s : Int × Int × Int × Int) (m : Int) : Int × Int × Int × Int :=
  if most - a < m then (s.1 + 1, s.2.1, s.2.2.1, s.2.2.2)
  else if most < 2 * m then (s.1, s.2.1 + 1, s.2.2.1 + m, s.2.2.2)
  else if a ≤ m then (s.1, s.2.1, s.2.2.1, s.2.2.2 + m) else s
def brest (most : Int) (s : Int × Int × Int × Int) : Int := s.2.2.2 - (s.2.1 * most - s.2.2.1)
def bform (most : Int) (s : Int × Int × Int × Int) : Int :=
  if 0 < brest most s then s.1 + s.2.1 + (brest most s + most - 1) / most else s.1 + s.2.1
def bval (ms : List Int) (most a : Int) : Int := bform most (ms.foldl (bstep most a) (0, 0, 0, 0))
/-- The program's bound: over 0 and the masses that are at most half. -/
def boundF (ms : List Int) (most : Int) : Int := (0 :: ms).foldl (fun best a => if most < 2 * a then best else max best (bval ms most a)) 0

/-- How large the parts can be behind i masses. -/
def BB (i : Int) (s : Int × Int × Int × Int) : Prop := (0 ≤ s.1 ∧ s.1 ≤ i) ∧ (0 ≤ s.2.1 ∧ s.2.1 ≤ i) ∧ (0 ≤ s.2.2.1 ∧ s.2.2.1 ≤ i * 1073741824) ∧ 0 ≤ s.2.2.2 ∧ s.2.2.2 ≤ i * 1073741824
theorem BB.step {i : Int} {s : Int × Int × Int × Int} (h : BB i s) (most a m : Int) (h0 : 0 ≤ m) (h1 : m ≤ 1073741824) : BB (i + 1) (bstep most a s m) := by
  obtain ⟨⟨h2, h3⟩, ⟨h4, h5⟩, ⟨h6, h7⟩, h8, h9⟩ := h
  unfold bstep
  split
  · exact ⟨⟨by (try dsimp only); omega, by (try dsimp only); omega⟩, ⟨h4, by (try dsimp only); omega⟩, ⟨h6, by (try dsimp only); omega⟩, h8, by (try dsimp only); omega⟩
  · split
    · exact ⟨⟨h2, by (try dsimp only); omega⟩, ⟨by (try dsimp only); omega, by (try dsimp only); omega⟩, ⟨by (try dsimp only); omega, by (try dsimp only); omega⟩, h8, by (try dsimp only); omega⟩
    · split
      · exact ⟨⟨h2, by (try dsimp only); omega⟩, ⟨h4, by (try dsimp only); omega⟩, ⟨h6, by (try dsimp only); omega⟩, by (try dsimp only); omega, by (try dsimp only); omega⟩
      · exact ⟨⟨h2, by (try dsimp only); omega⟩, ⟨h4, by (try dsimp only); omega⟩, ⟨h6, by (try dsimp only); omega⟩, h8, by (try dsimp only); omega⟩

/-- The masses are in their range. -/
def MOK (ms : List Int) : Prop := ms.length ≤ 12 ∧ ∀ i, i < ms.length → 1 ≤ ms.getD i 0 ∧ ms.getD i 0 ≤ 1073741824
theorem MOK.at_ {ms : List Int} (h : MOK ms) (i : Int) (h0 : 0 ≤ i) (h1 : i < ms.length) : 1 ≤ rd ms i ∧ rd ms i ≤ 1073741824 := h.2 i.toNat (by omega)
theorem mul_bd {x y a b : Int} (hx : 0 ≤ x) (hxa : x ≤ a) (hy : 0 ≤ y) (hyb : y ≤ b) : 0 ≤ x * y ∧ x * y ≤ a * b :=
  ⟨Int.mul_nonneg hx hy, Int.mul_le_mul hxa hyb hy (by omega)⟩

/-! ### What the program's bound answers. -/
theorem info3 : (Try.prog.info? 3).map (fun i => (i.zero, i.size, i.bytes)) = some (some (.int .i64 0), 1, 8) := by kernel_rfl

set_option maxHeartbeats 4000000 in
theorem bound_any (w : World) (A : Option Addr) (c : Nat) (ms : List Int) (most : Int) (h : (Kd.int .i64).C w A ms.length ms) (hms : MOK ms) (hm0 : 1 ≤ most) (hm1 : most ≤ 1073741824) :
    Calls Try.prog 42 #[.slice A ms.length c, .int .i64 most] w fun e w' => e = .returned (.int .i64 (boundF ms most)) ∧ Below w.heap.size w w' := by
  have HR0 := Aside0.mk h; clear h
  have hml := hms.1
  have HMS := Aside0.mk hms; clear hms
  have HB := Aside0.mk (Below.refl w.heap.size w)
  obtain ⟨y101, hy101⟩ : ∃ y_ : List Int, y_ = ([0] : List Int) := ⟨_, rfl⟩
  have Ny101 := Aside0.mk hy101; clear hy101
  obtain ⟨y104, hy104⟩ : ∃ y_ : List Int, y_ = y101 ++ ms := ⟨_, rfl⟩
  have hyl : y104.length = 1 + ms.length := by rw [hy104, Ny101.out]; simp; omega
  have hyl2 : y101.length = 1 := by rw [Ny101.out]; rfl
  have Ny104 := Aside0.mk hy104; clear hy104
  go_enter Try.func42, Try.ntmps42
  go_wp2_with (first | ((with_reducible refine gate_dst (N := 16) rfl ?_); refine Kd.R_lit (Kd.int .i64) _ 3 ?hg (N := 16) ?hd (xs := ([0] : List Int)) (inner := [.int .i64 0]) (ok := fun _ => True) (okp := fun _ => True) ?hr ?hp (fun _ hk => hk) trivial (Below.refl _ _) (Nat.le_refl _) (by simp) ?_; (case hd => rfl); (case hg => rfl); (case hr => first | (go_simp; done) | (go_simp; rfl)); (case hp => exact (Reps.one (show Kd.M (Kd.int .i64) _ _ _ 0 [.int .i64 0] from rfl) (Reps.none _ _))); intro v102 w4 ho5 hb hg_ hnew_; clear hg_ hnew_; (first | rw [← Ny101.out] at ho5 | (simp only [Int.reduceToNat] at ho5; rw [← Ny101.out] at ho5)); have n0_ := Aside0.mk (Kd.R_lower ho5 (below_size (by repeat (first | (with_reducible first | exact HB.out | apply below_alloc | apply pw_below_drewN | apply below_drew1) | exact HB.out)))); have n1_ := Aside0.mk (below_step (by repeat (first | (with_reducible first | exact HB.out | apply below_alloc | apply pw_below_drewN | apply below_drew1) | exact HB.out)) hb); clear HB; have HO103 := n0_; have HB := n1_; clear n0_ n1_; clear hb ho5) | ((with_reducible refine gate_builtin (b := .append) (xs := #[.tmp 16, .tmp 17]) rfl ?_); at_builtin; refine Kd.R_append_rows (Kd.int .i64) (w0 := w) w.heap.size rfl (.tmp 16) (.tmp 17) 22 3 (.int .i64 0) 8 rfl Try.underlying22 info3 rfl (by decide) (by omega) v102 y101 ms _ _ _ (fun _ => True) (fun _ => False) rfl rfl ?aO ?aR (fun _ _ h => h) (fun _ h => h.elim) ?aF ?aB ?aS ?aL ?_; (case aR => repeat (first | exact (Kd.C_below HR0.out HB.out) | (with_reducible refine Kd.C_alloc ?_ _) | (with_reducible refine Kd.C_drewN ?_ _) | (with_reducible refine Kd.C_drew ?_))); (case aB => exact (by repeat (first | (with_reducible first | exact HB.out | apply below_alloc | apply pw_below_drewN | apply below_drew1) | exact HB.out))); (case aF => exact (fun _ _ => trivial)); (case aO => exact (by (with_reducible repeat (first | apply Kd.R_alloc | apply Kd.R_drewN | apply Kd.R_drew)); exact HO103.out)); (case aS => exact (below_size (by repeat (first | (with_reducible first | exact HB.out | apply below_alloc | apply pw_below_drewN | apply below_drew1) | exact HB.out)))); (case aL => omega); intro v105 w6 ho hb hg hat; rw [← Ny104.out] at ho; have n0_ := Aside0.mk (hb); have n1_ := Aside0.mk (ho); clear HB; clear HO103; have HB := n0_; have HO106 := n1_; clear n0_ n1_; clear ho hb hg hat; obtain ⟨Ao7, co7, eo7⟩ := Kd.R_slice HO106.out; subst eo7))
  have HRY := Aside0.mk (Kd.R_reads' HO106.out).2.2
  have HRM := Aside0.mk (Kd.C_below HR0.out HB.out)
  clear HR0 HO106
  have hy1 : ∀ i : Int, 0 ≤ i → i < y104.length → 0 ≤ rd y104 i ∧ rd y104 i ≤ 1073741824 := by
    intro i h0 h1
    have e : y104 = 0 :: ms := by rw [Ny104.out, Ny101.out]; rfl
    rw [e] at h1 ⊢
    by_cases hi : i = 0
    · subst hi; simp [rd]
    · have := HMS.out.at_ (i - 1) (by omega) (by simp at h1; omega)
      have e2 : rd (0 :: ms) i = rd ms (i - 1) := by
        unfold rd
        rw [show i.toNat = (i - 1).toNat + 1 by omega]; rfl
      omega
  have HY1 := Aside0.mk hy1; clear hy1
  have hfin : boundF ms most = y104.foldl (fun best a => if most < 2 * a then best else max best (bval ms most a)) 0 := by
    rw [Ny104.out, Ny101.out]; rfl
  have HFIN := Aside0.mk hfin; clear hfin
  go_loop [5, 20] (fun v5 v20 => ∃ (best i : Int), v5 = .int .i64 best ∧ v20 = .int .i64 i ∧ 0 ≤ i ∧ i ≤ y104.length ∧ 0 ≤ best ∧ best ≤ 1099511627776 ∧ Aside0 ((y104.drop i.toNat).foldl (fun best a => if most < 2 * a then best else max best (bval ms most a)) best = y104.foldl (fun best a => if most < 2 * a then best else max best (bval ms most a)) 0)) (fun _ v => y104.length - (intOf v).toNat)
  case atStart => exact ⟨0, 0, rfl, rfl, by omega, by omega, by omega, by omega, ⟨rfl⟩⟩
  case round =>
    obtain ⟨best, i, rfl, rfl, h0, h1, hb0, hb1, he⟩ := hrel
    by_cases hlt : i < y104.length
    · obtain ⟨ad, e1, g3⟩ := Kd.at_int HRY.out i h0 hlt
      subst e1
      have ha := HY1.out i h0 hlt
      have he2 := he.out
      rw [drop_rd y104 i h0 hlt, List.foldl_cons] at he2
      obtain ⟨a, haa⟩ : ∃ z, z = rd y104 i := ⟨_, rfl⟩
      rw [← haa] at g3 ha he2
      clear haa he
      have he := Aside0.mk he2; clear he2
      by_cases hc : most < 2 * a
      · go_wp2_with fail
        go_round
        case rel =>
          have he2 := he.out
          rw [if_pos hc] at he2
          exact ⟨best, i + 1, rfl, by go_num, by omega, by omega, by omega, by omega, ⟨he2⟩⟩
        case measure => simp [intOf]; omega
      · have he2 := he.out
        rw [if_neg hc] at he2
        clear he
        have he := Aside0.mk he2; clear he2
        go_wp2_with fail
        go_loop [8, 9, 10, 11, 30] (fun v8 v9 v10 v11 v30 => ∃ (s1 s2 s3 s4 j : Int), v8 = .int .i64 s1 ∧ v9 = .int .i64 s2 ∧ v10 = .int .i64 s3 ∧ v11 = .int .i64 s4 ∧ v30 = .int .i64 j ∧ 0 ≤ j ∧ j ≤ ms.length ∧ BB j (s1, s2, s3, s4) ∧ Aside0 ((ms.drop j.toNat).foldl (bstep most a) (s1, s2, s3, s4) = ms.foldl (bstep most a) (0, 0, 0, 0))) (fun _ _ _ _ v => ms.length - (intOf v).toNat)
        case atStart => exact ⟨0, 0, 0, 0, 0, rfl, rfl, rfl, rfl, rfl, by omega, by omega, by unfold BB; simp, ⟨rfl⟩⟩
        case round =>
          obtain ⟨s1, s2, s3, s4, j, rfl, rfl, rfl, rfl, rfl, hj0, hj1, hbb, hf⟩ := hrel
          have hbb' := hbb
          unfold BB at hbb'
          obtain ⟨⟨k1, k2⟩, ⟨k3, k4⟩, ⟨k5, k6⟩, k7, k8⟩ := hbb'
          dsimp only at k1 k2 k3 k4 k5 k6 k7 k8
          have HBB := Aside0.mk hbb; clear hbb
          by_cases hjl : j < ms.length
          · obtain ⟨ad2, e1, g4⟩ := Kd.at_int HRM.out j hj0 hjl
            subst e1
            have hm := HMS.out.at_ j hj0 hjl
            have hf2 := hf.out
            rw [drop_rd ms j hj0 hjl, List.foldl_cons] at hf2
            obtain ⟨m, hmm⟩ : ∃ z, z = rd ms j := ⟨_, rfl⟩
            rw [← hmm] at g4 hm hf2
            clear hmm hf
            have hf := Aside0.mk hf2; clear hf2
            have hst := HBB.out.step most a m (by omega) (by omega)
            by_cases d1 : most - a < m
            · have e1 : bstep most a (s1, s2, s3, s4) m = (s1 + 1, s2, s3, s4) := by unfold bstep; rw [if_pos d1]
              rw [e1] at hst
              have E := Aside0.mk e1; clear e1
              have HS := Aside0.mk hst; clear hst
              go_wp2_with fail
              go_round
              case rel => exact ⟨s1 + 1, s2, s3, s4, j + 1, by go_num, by go_num, rfl, rfl, by go_num, by omega, by omega, HS.out, ⟨by have := hf.out; rwa [E.out] at this⟩⟩
              case measure => simp [intOf]; omega
            · by_cases d2 : most < 2 * m
              · have e1 : bstep most a (s1, s2, s3, s4) m = (s1, s2 + 1, s3 + m, s4) := by unfold bstep; rw [if_neg d1, if_pos d2]
                rw [e1] at hst
                have E := Aside0.mk e1; clear e1
                have HS := Aside0.mk hst; clear hst
                go_wp2_with fail
                go_round
                case rel => exact ⟨s1, s2 + 1, s3 + m, s4, j + 1, by go_num, by go_num, by go_num, by go_num, by go_num, by omega, by omega, HS.out, ⟨by have := hf.out; rwa [E.out] at this⟩⟩
                case measure => simp [intOf]; omega
              · by_cases d3 : a ≤ m
                · have e1 : bstep most a (s1, s2, s3, s4) m = (s1, s2, s3, s4 + m) := by unfold bstep; rw [if_neg d1, if_neg d2, if_pos d3]
                  rw [e1] at hst
                  have E := Aside0.mk e1; clear e1
                  have HS := Aside0.mk hst; clear hst
                  go_wp2_with fail
                  go_round
                  case rel => exact ⟨s1, s2, s3, s4 + m, j + 1, by go_num, by go_num, by go_num, by go_num, by go_num, by omega, by omega, HS.out, ⟨by have := hf.out; rwa [E.out] at this⟩⟩
                  case measure => simp [intOf]; omega
                · have e1 : bstep most a (s1, s2, s3, s4) m = (s1, s2, s3, s4) := by unfold bstep; rw [if_neg d1, if_neg d2, if_neg d3]
                  rw [e1] at hst
                  have E := Aside0.mk e1; clear e1
                  have HS := Aside0.mk hst; clear hst
                  go_wp2_with fail
                  go_round
                  case rel => exact ⟨s1, s2, s3, s4, j + 1, by go_num, by go_num, by go_num, by go_num, by go_num, by omega, by omega, HS.out, ⟨by have := hf.out; rwa [E.out] at this⟩⟩
                  case measure => simp [intOf]; omega
          · have hm2 := mul_bd k3 k4 (show 0 ≤ most by omega) hm1
            have hf2 := hf.out
            rw [show j.toNat = ms.length by omega, List.drop_length] at hf2
            obtain ⟨p, hp⟩ : ∃ z, z = s2 * most := ⟨_, rfl⟩
            rw [← hp] at hm2
            have hp' : s2 * most = p := hp.symm
            clear hp
            have hbv : bval ms most a = if 0 < s4 - (p - s3) then s1 + s2 + ((s4 - (p - s3)) + most - 1) / most else s1 + s2 := by
              unfold bval; rw [← hf2]; show bform most (s1, s2, s3, s4) = _; unfold bform brest; dsimp only; rw [hp']
            clear hf hf2
            have HV := Aside0.mk hbv; clear hbv
            have hq0 : 0 ≤ (s4 - (p - s3) + most - 1) / most ∨ ¬ 0 < s4 - (p - s3) := by
              by_cases hpos : 0 < s4 - (p - s3)
              · exact .inl (Int.ediv_nonneg (by omega) (by omega))
              · exact .inr hpos
            have hq1 : (s4 - (p - s3) + most - 1) / most ≤ 1000000000000 := by
              refine Int.le_trans (Int.ediv_le_ediv (b := 1000000000000) (by omega) (by omega)) ?_
              refine Int.ediv_le_of_le_mul (by omega) ?_
              have := Int.mul_le_mul_of_nonneg_left hm0 (show (0 : Int) ≤ 1000000000000 by omega)
              omega
            obtain ⟨bv, hbv2⟩ : ∃ z, z = bval ms most a := ⟨_, rfl⟩
            by_cases hpos : 0 < s4 - (p - s3)
            · have hq2 := hq0.resolve_right (fun hn => hn hpos)
              clear hq0
              have hv := HV.out
              rw [if_pos hpos] at hv
              rw [← hbv2] at hv
              by_cases hmx : best < s1 + s2 + (s4 - (p - s3) + most - 1) / most
              · have HV2 := Aside0.mk hv; clear hv
                have HBV := Aside0.mk hbv2; clear hbv2
                go_wp2_with fail
                go_round
                case rel =>
                  have he2 := he.out
                  rw [← HBV.out, HV2.out, Int.max_eq_right (by omega)] at he2
                  exact ⟨_, i + 1, rfl, by go_num, by omega, by omega, by omega, by omega, ⟨he2⟩⟩
                case measure => simp [intOf]; omega
              · have HV2 := Aside0.mk hv; clear hv
                have HBV := Aside0.mk hbv2; clear hbv2
                go_wp2_with fail
                go_round
                case rel =>
                  have he2 := he.out
                  rw [← HBV.out, HV2.out, Int.max_eq_left (by omega)] at he2
                  exact ⟨_, i + 1, rfl, by go_num, by omega, by omega, by omega, by omega, ⟨he2⟩⟩
                case measure => simp [intOf]; omega
            · clear hq0 hq1
              have hv := HV.out
              rw [if_neg hpos] at hv
              rw [← hbv2] at hv
              by_cases hmx : best < s1 + s2
              · have HV2 := Aside0.mk hv; clear hv
                have HBV := Aside0.mk hbv2; clear hbv2
                go_wp2_with fail
                go_round
                case rel =>
                  have he2 := he.out
                  rw [← HBV.out, HV2.out, Int.max_eq_right (by omega)] at he2
                  exact ⟨_, i + 1, rfl, by go_num, by omega, by omega, by omega, by omega, ⟨he2⟩⟩
                case measure => simp [intOf]; omega
              · have HV2 := Aside0.mk hv; clear hv
                have HBV := Aside0.mk hbv2; clear hbv2
                go_wp2_with fail
                go_round
                case rel =>
                  have he2 := he.out
                  rw [← HBV.out, HV2.out, Int.max_eq_left (by omega)] at he2
                  exact ⟨_, i + 1, rfl, by go_num, by omega, by omega, by omega, by omega, ⟨he2⟩⟩
                case measure => simp [intOf]; omega
    · go_wp2_with fail
      go_ret
      have he2 := he.out
      rw [show i.toNat = y104.length by omega, List.drop_length] at he2
      exact ⟨ret_int (he2.trans HFIN.out.symm), HB.out⟩

/-! ### What the reference's checks and bound answer; the comparison and the copy of lists. -/
set_option maxHeartbeats 1000000 in
theorem boxes_any (w : World) (A : Option Addr) (c : Nat) (ms : List Int) (most each : Int) (h : (Kd.int .i64).C w A ms.length ms) :
    Calls Try.prog 43 #[.slice A ms.length c, .int .i64 most, .int .i64 each] w fun e w' => e = .returned (.int .i64 (thingsE ms most each)) ∧ w = w' := by
  have hl := Kd.C_max h
  have HR := Aside0.mk h
  clear h
  obtain ⟨e0, he0⟩ : ∃ z, z = thingsE ms most each := ⟨_, rfl⟩
  rw [← he0]
  by_cases hlen : 12 < ms.length
  · unfold thingsE at he0
    rw [if_pos hlen] at he0
    have hlen' : (12 : Int) < ms.length := by omega
    subst he0
    go_enter Try.func43, Try.ntmps43
    go_wp2_with fail
    go_ret
    exact ⟨rfl, rfl⟩
  by_cases hp : most < 1 ∨ 1073741824 < most ∨ each < 1 ∨ 12 < each
  · unfold thingsE at he0
    rw [if_neg hlen, if_pos hp] at he0
    subst he0
    go_enter Try.func43, Try.ntmps43
    go_wp2_with fail
    all_goals first | (exfalso; omega) | (go_ret; exact ⟨rfl, rfl⟩)
  have HE := Aside0.mk he0; clear he0
  go_enter Try.func43, Try.ntmps43
  go_wp2_with fail
  all_goals try (exfalso; omega)
  go_loop [7] (fun v => ∃ i : Int, v = .int .i64 i ∧ 0 ≤ i ∧ i ≤ ms.length ∧ Aside0 ((ms.drop i.toNat).any (fun m => decide (m < 1) || decide (1073741824 < m)) = ms.any (fun m => decide (m < 1) || decide (1073741824 < m)))) (fun v => ms.length - (intOf v).toNat)
  case atStart => exact ⟨0, rfl, by omega, by omega, ⟨rfl⟩⟩
  case round =>
    obtain ⟨i, rfl, h0, h1, he⟩ := hrel
    by_cases hlt : i < ms.length
    · obtain ⟨ad, e1, g3⟩ := Kd.at_int HR.out i h0 hlt
      subst e1
      by_cases hbad : rd ms i < 1 ∨ 1073741824 < rd ms i
      · have hE : e0 = 2 := by
          have h2 := he.out
          rw [drop_rd ms i h0 hlt, List.any_cons] at h2
          rw [HE.out]; unfold thingsE
          rw [if_neg hlen, if_neg hp, ← h2, if_pos]
          simp only [Bool.or_eq_true, decide_eq_true_eq]
          exact .inl hbad
        subst hE
        go_wp2_with fail
        all_goals first | (exfalso; omega) | (go_ret; exact ⟨rfl, rfl⟩)
      · go_wp2_with fail
        all_goals try (exfalso; omega)
        go_round
        case rel =>
          refine ⟨i + 1, by go_num, by omega, by omega, ⟨?_⟩⟩
          rw [← he.out, drop_rd ms i h0 hlt, List.any_cons]
          have e1 : decide (rd ms i < 1) = false := by simp; omega
          have e2 : decide (1073741824 < rd ms i) = false := by simp; omega
          rw [e1, e2]; rfl
        case measure => simp [intOf]; omega
    · have hE : e0 = if ms.any (fun m => decide (most < m)) then 13 else 0 := by
        have h2 := he.out
        rw [show i.toNat = ms.length by omega, List.drop_length] at h2
        rw [HE.out]; unfold thingsE
        rw [if_neg hlen, if_neg hp, ← h2, if_neg (by simp)]
      clear HE he
      have HE := Aside0.mk hE; clear hE
      go_wp2_with fail
      go_loop [8] (fun v => ∃ i : Int, v = .int .i64 i ∧ 0 ≤ i ∧ i ≤ ms.length ∧ Aside0 ((ms.drop i.toNat).any (fun m => decide (most < m)) = ms.any (fun m => decide (most < m)))) (fun v => ms.length - (intOf v).toNat)
      case atStart => exact ⟨0, rfl, by omega, by omega, ⟨rfl⟩⟩
      case round =>
        obtain ⟨j, rfl, hj0, hj1, he⟩ := hrel
        by_cases hjl : j < ms.length
        · obtain ⟨ad, e1, g3⟩ := Kd.at_int HR.out j hj0 hjl
          subst e1
          by_cases hbad : most < rd ms j
          · have hE : e0 = 13 := by
              have h2 := he.out
              rw [drop_rd ms j hj0 hjl, List.any_cons] at h2
              rw [HE.out, ← h2, if_pos]
              simp [hbad]
            subst hE
            go_wp2_with fail
            go_ret; exact ⟨rfl, rfl⟩
          · go_wp2_with fail
            go_round
            case rel =>
              refine ⟨j + 1, by go_num, by omega, by omega, ⟨?_⟩⟩
              rw [← he.out, drop_rd ms j hj0 hjl, List.any_cons]
              have e1 : decide (most < rd ms j) = false := by simp; omega
              rw [e1]; rfl
            case measure => simp [intOf]; omega
        · have hE : e0 = 0 := by
            have h2 := he.out
            rw [show j.toNat = ms.length by omega, List.drop_length] at h2
            rw [HE.out, ← h2]; rfl
          subst hE
          go_wp2_with fail
          go_ret; exact ⟨rfl, rfl⟩

/-- The reference's formula at a threshold. -/
def rboundF (ms : List Int) (most a : Int) : Int := if a < 0 ∨ most / 2 < a then 0 else bval ms most a

theorem bval_bd (ms : List Int) (most a : Int) (hms : MOK ms) (hm0 : 1 ≤ most) (hm1 : most ≤ 1073741824) : 0 ≤ bval ms most a ∧ bval ms most a ≤ 1000000000100 := by
  have key : ∀ (l : List Int) (i : Int) (s : Int × Int × Int × Int), BB i s → (∀ j, j < l.length → 1 ≤ l.getD j 0 ∧ l.getD j 0 ≤ 1073741824) → BB (i + l.length) (l.foldl (bstep most a) s) := by
    intro l
    induction l with
    | nil => intro i s h _; simpa using h
    | cons m l ih =>
      intro i s h hl
      have h0 := hl 0 (by simp)
      have := ih (i + 1) _ (h.step most a m (by simp at h0; omega) (by simp at h0; omega)) (fun j hj => by have := hl (j + 1) (by simpa using hj); simpa using this)
      rw [List.foldl_cons, List.length_cons]
      rwa [show i + ((l.length + 1 : Nat) : Int) = i + 1 + l.length by omega]
  have h := key ms 0 (0, 0, 0, 0) (by unfold BB; simp) hms.2
  unfold bval
  generalize ms.foldl (bstep most a) (0, 0, 0, 0) = s at h
  obtain ⟨s1, s2, s3, s4⟩ := s
  unfold BB at h
  obtain ⟨⟨k1, k2⟩, ⟨k3, k4⟩, ⟨k5, k6⟩, k7, k8⟩ := h
  dsimp only at k1 k2 k3 k4 k5 k6 k7 k8
  have hl := hms.1
  unfold bform brest
  dsimp only
  have hm2 := mul_bd k3 k4 (show 0 ≤ most by omega) hm1
  generalize s2 * most = p at *
  split
  · have h1 : 0 ≤ (s4 - (p - s3) + most - 1) / most := Int.ediv_nonneg (by omega) (by omega)
    have h2 : (s4 - (p - s3) + most - 1) / most ≤ 1000000000000 := by
      refine Int.ediv_le_of_le_mul (by omega) ?_
      have := Int.mul_le_mul_of_nonneg_left hm0 (show (0 : Int) ≤ 1000000000000 by omega)
      omega
    omega
  · omega

/-! ### What the reference's bound answers, at a threshold and over all of them; the comparison of lists. -/
set_option maxHeartbeats 4000000 in
theorem rbound_any (w : World) (A : Option Addr) (c : Nat) (ms : List Int) (most a : Int) (h : (Kd.int .i64).C w A ms.length ms) (hms : MOK ms) (hm0 : 1 ≤ most) (hm1 : most ≤ 1073741824) (ha0 : -1099511627776 ≤ a) (ha1 : a ≤ 1099511627776) :
    Calls Try.prog 45 #[.slice A ms.length c, .int .i64 most, .int .i64 a] w fun e w' => e = .returned (.int .i64 (rboundF ms most a)) ∧ w = w' := by
  have HRM := Aside0.mk h; clear h
  have hml := hms.1
  have HMS := Aside0.mk hms; clear hms
  obtain ⟨e0, he0⟩ : ∃ z, z = rboundF ms most a := ⟨_, rfl⟩
  rw [← he0]
  by_cases hneg : a < 0
  · unfold rboundF at he0
    rw [if_pos (.inl hneg)] at he0
    subst he0
    go_enter Try.func45, Try.ntmps45
    go_wp2_with fail
    go_ret
    exact ⟨rfl, rfl⟩
  by_cases hbig : most / 2 < a
  · unfold rboundF at he0
    rw [if_pos (.inr hbig)] at he0
    subst he0
    go_enter Try.func45, Try.ntmps45
    go_wp2_with fail
    all_goals try (exfalso; omega)
    go_ret
    exact ⟨rfl, rfl⟩
  have hv : e0 = bval ms most a := by rw [he0]; unfold rboundF; rw [if_neg (by omega)]
  clear he0
  have HE := Aside0.mk hv; clear hv
  go_enter Try.func45, Try.ntmps45
  go_wp2_with fail
  all_goals try (exfalso; omega)
  go_loop [7, 8, 9, 10, 11] (fun v8 v9 v10 v11 v30 => ∃ (s1 s2 s3 s4 j : Int), v8 = .int .i64 s1 ∧ v9 = .int .i64 s2 ∧ v10 = .int .i64 s3 ∧ v11 = .int .i64 s4 ∧ v30 = .int .i64 j ∧ 0 ≤ j ∧ j ≤ ms.length ∧ BB j (s1, s2, s3, s4) ∧ Aside0 ((ms.drop j.toNat).foldl (bstep most a) (s1, s2, s3, s4) = ms.foldl (bstep most a) (0, 0, 0, 0))) (fun _ _ _ _ v => ms.length - (intOf v).toNat)
  case atStart => exact ⟨0, 0, 0, 0, 0, rfl, rfl, rfl, rfl, rfl, by omega, by omega, by unfold BB; simp, ⟨rfl⟩⟩
  case round =>
    obtain ⟨s1, s2, s3, s4, j, rfl, rfl, rfl, rfl, rfl, hj0, hj1, hbb, hf⟩ := hrel
    have hbb' := hbb
    unfold BB at hbb'
    obtain ⟨⟨k1, k2⟩, ⟨k3, k4⟩, ⟨k5, k6⟩, k7, k8⟩ := hbb'
    dsimp only at k1 k2 k3 k4 k5 k6 k7 k8
    have HBB := Aside0.mk hbb; clear hbb
    by_cases hjl : j < ms.length
    · obtain ⟨ad2, e1, g4⟩ := Kd.at_int HRM.out j hj0 hjl
      subst e1
      have hm := HMS.out.at_ j hj0 hjl
      have hf2 := hf.out
      rw [drop_rd ms j hj0 hjl, List.foldl_cons] at hf2
      obtain ⟨m, hmm⟩ : ∃ z, z = rd ms j := ⟨_, rfl⟩
      rw [← hmm] at g4 hm hf2
      clear hmm hf
      have hf := Aside0.mk hf2; clear hf2
      have hst := HBB.out.step most a m (by omega) (by omega)
      by_cases d1 : most - a < m
      · have e1 : bstep most a (s1, s2, s3, s4) m = (s1 + 1, s2, s3, s4) := by unfold bstep; rw [if_pos d1]
        rw [e1] at hst
        have E := Aside0.mk e1; clear e1
        have HS := Aside0.mk hst; clear hst
        go_wp2_with fail
        go_round
        case rel => exact ⟨s1 + 1, s2, s3, s4, j + 1, by go_num, by go_num, rfl, rfl, by go_num, by omega, by omega, HS.out, ⟨by have := hf.out; rwa [E.out] at this⟩⟩
        case measure => simp [intOf]; omega
      · by_cases d2 : most < 2 * m
        · have e1 : bstep most a (s1, s2, s3, s4) m = (s1, s2 + 1, s3 + m, s4) := by unfold bstep; rw [if_neg d1, if_pos d2]
          rw [e1] at hst
          have E := Aside0.mk e1; clear e1
          have HS := Aside0.mk hst; clear hst
          go_wp2_with fail
          go_round
          case rel => exact ⟨s1, s2 + 1, s3 + m, s4, j + 1, by go_num, by go_num, by go_num, by go_num, by go_num, by omega, by omega, HS.out, ⟨by have := hf.out; rwa [E.out] at this⟩⟩
          case measure => simp [intOf]; omega
        · by_cases d3 : a ≤ m
          · have e1 : bstep most a (s1, s2, s3, s4) m = (s1, s2, s3, s4 + m) := by unfold bstep; rw [if_neg d1, if_neg d2, if_pos d3]
            rw [e1] at hst
            have E := Aside0.mk e1; clear e1
            have HS := Aside0.mk hst; clear hst
            go_wp2_with fail
            go_round
            case rel => exact ⟨s1, s2, s3, s4 + m, j + 1, by go_num, by go_num, by go_num, by go_num, by go_num, by omega, by omega, HS.out, ⟨by have := hf.out; rwa [E.out] at this⟩⟩
            case measure => simp [intOf]; omega
          · have e1 : bstep most a (s1, s2, s3, s4) m = (s1, s2, s3, s4) := by unfold bstep; rw [if_neg d1, if_neg d2, if_neg d3]
            rw [e1] at hst
            have E := Aside0.mk e1; clear e1
            have HS := Aside0.mk hst; clear hst
            go_wp2_with fail
            go_round
            case rel => exact ⟨s1, s2, s3, s4, j + 1, by go_num, by go_num, by go_num, by go_num, by go_num, by omega, by omega, HS.out, ⟨by have := hf.out; rwa [E.out] at this⟩⟩
            case measure => simp [intOf]; omega
    · have hm2 := mul_bd k3 k4 (show 0 ≤ most by omega) hm1
      have hf2 := hf.out
      rw [show j.toNat = ms.length by omega, List.drop_length] at hf2
      obtain ⟨p, hp⟩ : ∃ z, z = s2 * most := ⟨_, rfl⟩
      rw [← hp] at hm2
      have hp' : s2 * most = p := hp.symm
      clear hp
      have hbv : e0 = if 0 < s4 - (p - s3) then s1 + s2 + ((s4 - (p - s3)) + most - 1) / most else s1 + s2 := by
        rw [HE.out]; unfold bval; rw [← hf2]; show bform most (s1, s2, s3, s4) = _; unfold bform brest; dsimp only; rw [hp']
      clear hf hf2
      have HV := Aside0.mk hbv; clear hbv
      by_cases hpos : 0 < s4 - (p - s3)
      · have hq0 : 0 ≤ (s4 - (p - s3) + most - 1) / most := Int.ediv_nonneg (by omega) (by omega)
        have hq1 : (s4 - (p - s3) + most - 1) / most ≤ 1000000000000 := by
          refine Int.ediv_le_of_le_mul (by omega) ?_
          have := Int.mul_le_mul_of_nonneg_left hm0 (show (0 : Int) ≤ 1000000000000 by omega)
          omega
        go_wp2_with fail
        go_ret
        exact ⟨ret_int (by rw [HV.out, if_pos hpos]), rfl⟩
      · go_wp2_with fail
        go_ret
        exact ⟨ret_int (by rw [HV.out, if_neg (by omega)]), rfl⟩

theorem bdN (w : World) (n : Nat) : Below w.heap.size w (w.drewN n) := ⟨rfl, rfl, rfl, Nat.le_refl _, fun _ _ => rfl⟩
/-- The comparison of two lists. -/
theorem same_any (w : World) (A B : Option Addr) (c d : Nat) (xs ys : List Int) (h : (Kd.int .i64).C w A xs.length xs) (k : (Kd.int .i64).C w B ys.length ys) :
    Calls Try.prog 19 #[.slice A xs.length c, .slice B ys.length d] w fun e w' => e = .returned (.bool (decide (xs = ys))) ∧ Below w.heap.size w w' := by
  have hl := Kd.C_max h
  have hl2 := Kd.C_max k
  have HX := Aside0.mk h; clear h
  have HY := Aside0.mk k; clear k
  by_cases hlen : xs.length = ys.length
  · have hlen' : ((xs.length : Int) != (ys.length : Int)) = false := by simp [hlen]
    have hle : (xs.length : Int) ≤ ys.length := by omega
    have HL := Aside0.mk hlen; clear hlen
    go_enter Try.func19, Try.ntmps19
    go_wp2_with fail
    go_loopw [5] (fun v wr => ∃ i : Int, v = .int .i64 i ∧ 0 ≤ i ∧ i ≤ xs.length ∧ (∃ n, wr = w.drewN n) ∧ Aside0 (xs.take i.toNat = ys.take i.toNat)) (fun v _ => xs.length - (intOf v).toNat)
    case atStart => exact ⟨0, rfl, by omega, by omega, ⟨0, rfl⟩, ⟨rfl⟩⟩
    case round =>
      obtain ⟨i, rfl, h0, h1, ⟨n, rfl⟩, he⟩ := hrel
      by_cases hlt : i < xs.length
      · obtain ⟨ad, e1, g1⟩ := Kd.at_int HX.out i h0 hlt
        obtain ⟨ad2, e2, g2⟩ := Kd.at_int HY.out i h0 (by omega)
        subst e1; subst e2
        have hlt2 : i < ys.length := by omega
        have tx : xs.take (i + 1).toNat = xs.take i.toNat ++ [rd xs i] := by
          rw [show (i + 1).toNat = i.toNat + 1 by omega, List.take_succ_eq_append_getElem (by omega)]
          simp [rd, List.getD_eq_getElem?_getD, List.getElem?_eq_getElem (show i.toNat < xs.length by omega)]
        have ty : ys.take (i + 1).toNat = ys.take i.toNat ++ [rd ys i] := by
          rw [show (i + 1).toNat = i.toNat + 1 by omega, List.take_succ_eq_append_getElem (by omega)]
          simp [rd, List.getD_eq_getElem?_getD, List.getElem?_eq_getElem (show i.toNat < ys.length by omega)]
        have TX := Aside0.mk tx; clear tx
        have TY := Aside0.mk ty; clear ty
        obtain ⟨x, hx⟩ : ∃ z, z = rd xs i := ⟨_, rfl⟩
        obtain ⟨y, hy⟩ : ∃ z, z = rd ys i := ⟨_, rfl⟩
        rw [← hx] at g1; rw [← hy] at g2
        have EX := Aside0.mk hx; clear hx
        have EY := Aside0.mk hy; clear hy
        by_cases hxy : x = y
        · have hb : (x != y) = false := by simp [hxy]
          have HXY := Aside0.mk hxy; clear hxy
          go_wp2_with fail
          go_quiet (fail)
          go_wp2_with fail
          go_roundw
          case rel => exact ⟨i + 1, by go_num, by omega, by omega, ⟨_, rfl⟩, ⟨by rw [TX.out, TY.out, he.out, ← EX.out, ← EY.out, HXY.out]⟩⟩
          case measure => simp [intOf]; omega
        · have hb : (x != y) = true := by simp [hxy]
          go_wp2_with fail
          go_quiet (fail)
          go_wp2_with fail
          go_ret
          refine ⟨ret_bool ?_, ⟨rfl, rfl, rfl, Nat.le_refl _, fun _ _ => rfl⟩⟩
          symm
          rw [decide_eq_false_iff_not]
          intro heq
          apply hxy
          rw [EX.out, EY.out, heq]
      · go_wp2_with fail
        go_ret
        refine ⟨ret_bool ?_, bdN _ _⟩
        have h2 := he.out
        rw [show i.toNat = xs.length by omega, List.take_length, HL.out, List.take_length] at h2
        simp [h2]
  · have hlen' : ((xs.length : Int) != (ys.length : Int)) = true := by simp; omega
    go_enter Try.func19, Try.ntmps19
    go_wp2_with fail
    go_ret
    exact ⟨ret_bool (by symm; rw [decide_eq_false_iff_not]; intro h; exact hlen (by rw [h])), Below.refl _ _⟩

/-- The four thresholds beside one mass. -/
def rstep (ms : List Int) (most : Int) (best m : Int) : Int :=
  max (max (max (max best (rboundF ms most m)) (rboundF ms most (most - m))) (rboundF ms most (m + 1))) (rboundF ms most (most - m + 1))
def rBoundF (ms : List Int) (most : Int) : Int := ms.foldl (rstep ms most) (rboundF ms most 0)

theorem rboundF_bd (ms : List Int) (most a : Int) (hms : MOK ms) (hm0 : 1 ≤ most) (hm1 : most ≤ 1073741824) : 0 ≤ rboundF ms most a ∧ rboundF ms most a ≤ 1000000000100 := by
  unfold rboundF
  split
  · omega
  · exact bval_bd ms most a hms hm0 hm1

/-- What a check lets in. -/
theorem MOK.of_E {ms : List Int} {most each : Int} (h : thingsE ms most each = 0) : MOK ms ∧ (1 ≤ most ∧ most ≤ 1073741824) ∧ (1 ≤ each ∧ each ≤ 12) ∧ ∀ i, i < ms.length → ms.getD i 0 ≤ most := by
  unfold thingsE at h
  by_cases h1 : 12 < ms.length
  · rw [if_pos h1] at h; omega
  · rw [if_neg h1] at h
    by_cases h2 : most < 1 ∨ 1073741824 < most ∨ each < 1 ∨ 12 < each
    · rw [if_pos h2] at h; omega
    · rw [if_neg h2] at h
      by_cases h3 : ms.any (fun m => decide (m < 1) || decide (1073741824 < m)) = true
      · rw [if_pos h3] at h; omega
      · rw [if_neg h3] at h
        by_cases h4 : ms.any (fun m => decide (most < m)) = true
        · rw [if_pos h4] at h; omega
        · refine ⟨⟨by omega, fun i hi => ?_⟩, by omega, by omega, fun i hi => ?_⟩
          · rw [List.getD_eq_getElem?_getD, List.getElem?_eq_getElem hi]
            simp only [Bool.not_eq_true, List.any_eq_false, Bool.or_eq_true, decide_eq_true_eq, not_or] at h3
            have := h3 ms[i] (List.getElem_mem hi)
            simp; omega
          · rw [List.getD_eq_getElem?_getD, List.getElem?_eq_getElem hi]
            simp only [Bool.not_eq_true, List.any_eq_false, decide_eq_true_eq] at h4
            have := h4 ms[i] (List.getElem_mem hi)
            simp; omega

set_option maxHeartbeats 4000000 in
theorem rBound_any (w : World) (A : Option Addr) (c : Nat) (ms : List Int) (most : Int) (h : (Kd.int .i64).C w A ms.length ms) :
    Calls Try.prog 21 #[.slice A ms.length c, .int .i64 most] w fun e w' => e = .returned (.tuple #[.int .i64 (if thingsE ms most 1 = 0 then rBoundF ms most else 0), .int .i64 (thingsE ms most 1)]) ∧ w = w' := by
  have hbx := Aside0.mk (boxes_any w A c ms most 1 h)
  have HRM := Aside0.mk h; clear h
  obtain ⟨e0, he0⟩ : ∃ z, z = thingsE ms most 1 := ⟨_, rfl⟩
  rw [← he0] at hbx ⊢
  by_cases hz : e0 = 0
  · rw [if_pos hz]
    obtain ⟨hms, ⟨hm0, hm1⟩, _, hle⟩ := MOK.of_E (he0.symm.trans hz)
    clear he0
    subst hz
    have hml := hms.1
    have HMS := Aside0.mk hms; clear hms
    have HLE := Aside0.mk hle; clear hle
    have hrb : ∀ a, -1099511627776 ≤ a → a ≤ 1099511627776 → Calls Try.prog 45 #[.slice A ms.length c, .int .i64 most, .int .i64 a] w fun e w' => e = .returned (.int .i64 (rboundF ms most a)) ∧ w = w' :=
      fun a h0 h1 => rbound_any w A c ms most a HRM.out HMS.out hm0 hm1 h0 h1
    have HB := Aside0.mk hrb; clear hrb
    have hb0 := rboundF_bd ms most 0 HMS.out hm0 hm1
    obtain ⟨b0, hbb0⟩ : ∃ z, z = rboundF ms most 0 := ⟨_, rfl⟩
    rw [← hbb0] at hb0
    have HB0 := Aside0.mk hbb0; clear hbb0
    go_enter Try.func21, Try.ntmps21
    go_wp2_with (first | ((with_reducible refine hbx.out.mono ?_); rintro e5 w5 ⟨rfl, rfl⟩) | ((with_reducible refine (HB.out 0 (by omega) (by omega)).mono ?_); rintro e5 w5 ⟨rfl, rfl⟩; rw [← HB0.out]))
    go_loop [7, 8] (fun v7 v8 => ∃ (best i : Int), v7 = .int .i64 best ∧ v8 = .int .i64 i ∧ 0 ≤ i ∧ i ≤ ms.length ∧ Aside0 ((ms.drop i.toNat).foldl (rstep ms most) best = rBoundF ms most)) (fun _ v => ms.length - (intOf v).toNat)
    case atStart => exact ⟨b0, 0, rfl, rfl, by omega, by omega, ⟨by rw [HB0.out]; rfl⟩⟩
    case round =>
      obtain ⟨best, i, rfl, rfl, h0, h1, he⟩ := hrel
      by_cases hlt : i < ms.length
      · have he2 := he.out
        rw [drop_rd ms i h0 hlt, List.foldl_cons] at he2
        clear he
        have he := Aside0.mk he2; clear he2
        obtain ⟨ad, e1, g3⟩ := Kd.at_int HRM.out i h0 hlt
        subst e1
        have hm := HMS.out.at_ i h0 hlt
        obtain ⟨m, hmm⟩ : ∃ z, z = rd ms i := ⟨_, rfl⟩
        rw [← hmm] at g3 hm he
        clear hmm
        go_wp2_with fail
        go_loop [7, 9] (fun v7 v9 => ∃ (bst d : Int), v7 = .int .i64 bst ∧ v9 = .int .i64 d ∧ 0 ≤ d ∧ d ≤ 2 ∧ Aside0 (if d = 0 then bst = best else if d = 1 then bst = max (max best (rboundF ms most m)) (rboundF ms most (most - m)) else bst = rstep ms most best m)) (fun _ v => 3 - (intOf v).toNat)
        case atStart => exact ⟨best, 0, rfl, rfl, by omega, by omega, ⟨by rw [if_pos rfl]⟩⟩
        case round =>
          obtain ⟨bst, d, rfl, rfl, hd0, hd1, hst⟩ := hrel
          by_cases hd2 : d < 2
          · obtain ⟨p, hp⟩ : ∃ z, z = rboundF ms most (m + d) := ⟨_, rfl⟩
            obtain ⟨q, hq⟩ : ∃ z, z = rboundF ms most (most - m + d) := ⟨_, rfl⟩
            have HP := Aside0.mk hp; clear hp
            have HQ := Aside0.mk hq; clear hq
            have hfin : Aside0 (if d + 1 = 0 then max (max bst p) q = best else if d + 1 = 1 then max (max bst p) q = max (max best (rboundF ms most m)) (rboundF ms most (most - m)) else max (max bst p) q = rstep ms most best m) := by
              refine ⟨?_⟩
              have hs := hst.out
              rw [HP.out, HQ.out]
              by_cases hd : d = 0
              · subst hd
                rw [if_pos rfl] at hs
                rw [if_neg (by omega), if_pos (by omega), hs, Int.add_zero, Int.add_zero]
              · have : d = 1 := by omega
                subst this
                rw [if_neg (by omega), if_pos rfl] at hs
                rw [if_neg (by omega), if_neg (by omega), hs]; rfl
            clear hst
            by_cases c1 : bst < p
            · by_cases c2 : p < q
              · go_wp2_with (first | ((with_reducible refine (HB.out (m + d) (by omega) (by omega)).mono ?_); rintro e5 w5 ⟨rfl, rfl⟩; rw [← HP.out]) | ((with_reducible refine (HB.out (most - m + d) (by omega) (by omega)).mono ?_); rintro e5 w5 ⟨rfl, rfl⟩; rw [← HQ.out]))
                go_round
                case rel => exact ⟨q, d + 1, by go_num, by go_num, by omega, by omega, by rwa [show max (max bst p) q = q by omega] at hfin⟩
                case measure => simp [intOf]; omega
              · go_wp2_with (first | ((with_reducible refine (HB.out (m + d) (by omega) (by omega)).mono ?_); rintro e5 w5 ⟨rfl, rfl⟩; rw [← HP.out]) | ((with_reducible refine (HB.out (most - m + d) (by omega) (by omega)).mono ?_); rintro e5 w5 ⟨rfl, rfl⟩; rw [← HQ.out]))
                go_round
                case rel => exact ⟨p, d + 1, by go_num, by go_num, by omega, by omega, by rwa [show max (max bst p) q = p by omega] at hfin⟩
                case measure => simp [intOf]; omega
            · by_cases c2 : bst < q
              · go_wp2_with (first | ((with_reducible refine (HB.out (m + d) (by omega) (by omega)).mono ?_); rintro e5 w5 ⟨rfl, rfl⟩; rw [← HP.out]) | ((with_reducible refine (HB.out (most - m + d) (by omega) (by omega)).mono ?_); rintro e5 w5 ⟨rfl, rfl⟩; rw [← HQ.out]))
                go_round
                case rel => exact ⟨q, d + 1, by go_num, by go_num, by omega, by omega, by rwa [show max (max bst p) q = q by omega] at hfin⟩
                case measure => simp [intOf]; omega
              · go_wp2_with (first | ((with_reducible refine (HB.out (m + d) (by omega) (by omega)).mono ?_); rintro e5 w5 ⟨rfl, rfl⟩; rw [← HP.out]) | ((with_reducible refine (HB.out (most - m + d) (by omega) (by omega)).mono ?_); rintro e5 w5 ⟨rfl, rfl⟩; rw [← HQ.out]))
                go_round
                case rel => exact ⟨bst, d + 1, by go_num, by go_num, by omega, by omega, by rwa [show max (max bst p) q = bst by omega] at hfin⟩
                case measure => simp [intOf]; omega
          · have hs : bst = rstep ms most best m := by
              have := hst.out
              rwa [if_neg (by omega), if_neg (by omega)] at this
            have HS := Aside0.mk hs; clear hs hst
            go_wp2_with fail
            go_round
            case rel => exact ⟨bst, i + 1, rfl, by go_num, by omega, by omega, ⟨by rw [HS.out]; exact he.out⟩⟩
            case measure => simp [intOf]; omega
      · go_wp2_with fail
        go_ret2
        have h2 := he.out
        rw [show i.toNat = ms.length by omega, List.drop_length] at h2
        exact ⟨by rw [← h2]; rfl, rfl⟩
  · rw [if_neg hz]
    have hzb : (e0 != 0) = true := by simp [hz]
    clear he0
    go_enter Try.func21, Try.ntmps21
    go_wp2_with ((with_reducible refine hbx.out.mono ?_); rintro e5 w5 ⟨rfl, rfl⟩)
    go_ret2
    exact ⟨rfl, rfl⟩

end Go.Proofs.Ytnoocdobldchoaa
