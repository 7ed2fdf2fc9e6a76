/- Texts of this claim and words of the kit's print, trimmed to what it uses and joined. -/
import Derived.Test.YthkfahkkcjagdaaProg
import Derived.WalkKit
import Derived.KernelRfl
import Derived.Deep.QuietTactic
import Derived.BigQuiet
import Derived.BigRegion
import Derived.RegionTactic
import Derived.Lib.Hide
import Derived.Deep.DeepCutAuto
import Derived.Deep.CutBlock
import Derived.Outline
import Derived.StillTailTactics
import Derived.Test.YthkfahkkcjagdaaZhW
section
namespace Go.Proofs.Ythkfahkkcjagdaa
open Go.RowKit Go.Proofs.YthkfahkkcjagdaaW.PrintWords Go.Proofs.YthkfahkkcjagdaaW.PrintMore Go.Proofs.YthkfahkkcjagdaaW.PrintLast

/-! ### Plain facts on blocks of memory: a block that is known whole, and what a call leaves as it was. -/
/-- Block b of w holds the cells cs, of element type t, none of them frozen. -/
def Blk (w : World) (b : Nat) (cs : List Value) (t : TypeId) : Prop := w.heap[b]? = some (.cells cs.toArray t (0, 0))

section
variable {w w' : World} {b : Nat} {cs : List Value} {t : TypeId}
theorem Blk.cell (h : Blk w b cs t) (i : Nat) : w.cell? ⟨b, i, none⟩ = cs[i]? := by
  unfold Blk at h
  simp [World.cell?, h]
theorem Blk.at_ (h : Blk w b cs t) {i : Nat} {v : Value} (hv : cs[i]? = some v) : w.cell? ⟨b, i, none⟩ = some v := (h.cell i).trans hv
theorem Blk.free (h : Blk w b cs t) (i : Nat) : w.frozen? ⟨b, i, none⟩ = false := by
  unfold Blk at h
  simp [World.frozen?, h]
theorem Blk.lt (h : Blk w b cs t) : b < w.heap.size := lt_of_block h
theorem Blk.set (h : Blk w b cs t) (i : Nat) (v : Value) : Blk (w.setCell ⟨b, i, none⟩ v) b (cs.set i v) t := by
  unfold Blk at *
  simp [World.setCell, Array.getElem?_modify, h]
theorem Blk.far (h : Blk w b cs t) {p : Addr} (hp : b ≠ p.block) (v : Value) : Blk (w.setCell p v) b cs t := (Below.heap_setCell w p v b hp).trans h
theorem Blk.alloc (h : Blk w b cs t) (o : Obj) : Blk (w.alloc o) b cs t := (Below.heap_alloc w o b h.lt).trans h
theorem Blk.new (w : World) (cs : List Value) (t : TypeId) : Blk (w.alloc (.cells cs.toArray t)) w.heap.size cs t := by
  unfold Blk
  show (w.heap.push _)[w.heap.size]? = _
  simp
theorem Blk.drewN (h : Blk w b cs t) (n : Nat) : Blk (w.drewN n) b cs t := h
theorem Blk.drew (h : Blk w b cs t) : Blk w.drew b cs t := h
theorem Blk.ne_of_type {b' : Nat} {cs' : List Value} {t' : TypeId} (h : Blk w b cs t) (h' : Blk w b' cs' t') (ht : t ≠ t') : b ≠ b' := by
  rintro rfl
  unfold Blk at *
  rw [h] at h'
  injection h' with h'
  injection h' with _ h2
  exact ht h2
end

/-- All but the blocks of S (and what is new) is as it was. -/
structure Kp (S : Nat → Prop) (w w' : World) : Prop where
  os : w'.os = w.os
  tape : w'.tape = w.tape
  output : w'.output = w.output
  size : w.heap.size ≤ w'.heap.size
  block : ∀ k, k < w.heap.size → ¬ S k → w'.heap[k]? = w.heap[k]?

section
variable {S T : Nat → Prop} {w w1 w2 : World}
theorem Kp.refl (S : Nat → Prop) (w : World) : Kp S w w := ⟨rfl, rfl, rfl, Nat.le_refl _, fun _ _ _ => rfl⟩
theorem Kp.trans (h : Kp S w w1) (k : Kp T w1 w2) (hs : ∀ i, i < w.heap.size → T i → S i) : Kp S w w2 :=
  ⟨k.os.trans h.os, k.tape.trans h.tape, k.output.trans h.output, Nat.le_trans h.size k.size,
   fun i hi hn => (k.block i (Nat.lt_of_lt_of_le hi h.size) (fun ht => hn (hs i hi ht))).trans (h.block i hi hn)⟩
theorem Kp.step (h : Kp S w w1) (k : Kp S w1 w2) : Kp S w w2 := h.trans k (fun _ _ hs => hs)
theorem Kp.mono (h : Kp S w w1) (hs : ∀ i, S i → T i) : Kp T w w1 := ⟨h.os, h.tape, h.output, h.size, fun i hi hn => h.block i hi (fun hk => hn (hs i hk))⟩
theorem Kp.mono' (h : Kp S w w1) (hs : ∀ i, i < w.heap.size → S i → T i) : Kp T w w1 := ⟨h.os, h.tape, h.output, h.size, fun i hi hn => h.block i hi (fun hk => hn (hs i hi hk))⟩
theorem Kp.alloc (h : Kp S w w1) (o : Obj) : Kp S w (w1.alloc o) :=
  ⟨h.os, h.tape, h.output, by simp; have := h.size; omega, fun i hi hn => (Below.heap_alloc w1 o i (Nat.lt_of_lt_of_le hi h.size)).trans (h.block i hi hn)⟩
theorem Kp.setCell (h : Kp S w w1) {p : Addr} (hp : p.block < w.heap.size → S p.block) (v : Value) : Kp S w (w1.setCell p v) :=
  ⟨h.os, h.tape, h.output, by simp; exact h.size, fun i hi hn => (Below.heap_setCell w1 p v i (fun e => hn (e ▸ hp (e ▸ hi)))).trans (h.block i hi hn)⟩
theorem Kp.drew (h : Kp S w w1) : Kp S w w1.drew := ⟨h.os, h.tape, h.output, h.size, h.block⟩
theorem Kp.drewN (h : Kp S w w1) (n : Nat) : Kp S w (w1.drewN n) := ⟨h.os, h.tape, h.output, h.size, h.block⟩
theorem Kp.of_below (h : Below w.heap.size w w1) : Kp S w w1 := ⟨h.os, h.tape, h.output, h.size, fun i hi _ => h.block i hi⟩
theorem Kp.below (h : Kp (fun _ => False) w w1) : Below w.heap.size w w1 := ⟨h.os, h.tape, h.output, h.size, fun i hi => h.block i hi id⟩
/-- What was written is new since: nothing that was there has turned. -/
theorem Kp.below_of (h : Kp S w w1) (hs : ∀ i, S i → w.heap.size ≤ i) : Below w.heap.size w w1 :=
  ⟨h.os, h.tape, h.output, h.size, fun i hi => h.block i hi (fun hk => by have := hs i hk; omega)⟩
theorem Kp.kept (h : Kp S w w1) : Kept w w1 S := ⟨h.size, h.block⟩
theorem Kp.then_below (h : Kp S w w1) (k : Below w1.heap.size w1 w2) : Kp S w w2 := h.trans (Kp.of_below (S := fun _ => False) k) (fun _ _ hf => hf.elim)
theorem Blk.kp {b : Nat} {cs : List Value} {t : TypeId} (h : Blk w b cs t) (k : Kp S w w1) (hn : ¬ S b) : Blk w1 b cs t := (k.block b h.lt hn).trans h
theorem Blk.below {b : Nat} {cs : List Value} {t : TypeId} (h : Blk w b cs t) (k : Below w.heap.size w w1) : Blk w1 b cs t := (k.block b h.lt).trans h
theorem Kp.cell (k : Kp S w w1) {a : Addr} {v : Value} (h : w.cell? a = some v) (hn : ¬ S a.block) : w1.cell? a = some v :=
  (World.cell?_of_block (w := w) (k.block a.block (World.block_lt_of_cell? w a h) hn)).trans h
end

def ints (xs : List Int) : List Value := xs.map fun x => .int .i64 x
theorem ints_length (xs : List Int) : (ints xs).length = xs.length := by simp [ints]
theorem ints_get (xs : List Int) {i : Nat} (h : i < xs.length) : (ints xs)[i]? = some (.int .i64 (xs.getD i 0)) := by
  simp [ints, List.getD_eq_getElem?_getD, List.getElem?_eq_getElem h]
theorem ints_set (xs : List Int) (i : Nat) (v : Int) : (ints xs).set i (.int .i64 v) = ints (xs.set i v) := by
  simp [ints, List.map_set]

section
variable {w w1 : World}
theorem C_of_cells {A : Option Addr} {n : Nat} {xs : List Int} (h : (Kd.int .i64).C w A n xs) (hc : 0 < n → ∀ ad, A = some ad → ∀ j, w1.cell? (ad.add j) = w.cell? (ad.add j)) : (Kd.int .i64).C w1 A n xs := by
  obtain ⟨h1, h2, h3⟩ := h
  refine ⟨h1, h2, fun hn => ?_⟩
  obtain ⟨ad, e, h4⟩ := h3 hn
  refine ⟨ad, e, fun j p hp => ?_⟩
  obtain ⟨c, h5, h6, h7⟩ := h4 j p hp
  exact ⟨c, h5, h6, fun i u hi => (hc hn ad e _).trans (h7 i u hi)⟩
theorem add_block (a : Addr) (j : Nat) : (a.add j).block = a.block := by unfold Addr.add; split <;> rfl
end
theorem ret_int {k : IntKind} {a b : Int} (h : a = b) : Ending.returned (.int k a) = .returned (.int k b) := by rw [h]
theorem ret_bool {a b : Bool} (h : a = b) : Ending.returned (.bool a) = .returned (.bool b) := by rw [h]
theorem info3 : (Try.prog.info? 3).map (fun i => (i.zero, i.size, i.bytes)) = some (some (.int .i64 0), 1, 8) := by kernel_rfl

theorem bdN (w : World) (n : Nat) : Below w.heap.size w (w.drewN n) := ⟨rfl, rfl, rfl, Nat.le_refl _, fun _ _ => rfl⟩
theorem made_ints (n : Nat) : madeCells #[.int .i64 0] n = (ints (List.replicate n 0)).toArray := by
  apply Array.toList_inj.1
  rw [toList_madeCells_one]
  simp [ints]

theorem dropP {α : Type} (xs : List α) (z : α) (i : Int) (h0 : 0 ≤ i) (h : i < xs.length) : xs.drop i.toNat = xs.getD i.toNat z :: xs.drop (i + 1).toNat := by
  have hl : i.toNat < xs.length := by omega
  rw [List.drop_eq_getElem_cons hl, show (i + 1).toNat = i.toNat + 1 by omega]
  simp [List.getD_eq_getElem?_getD, List.getElem?_eq_getElem hl]

theorem isNaN_any (w : World) (x : Int) : Calls Try.prog 127 #[.int .i64 x] w fun e w' => e = .returned (.bool false) ∧ w = w' := by
  go_enter Try.func127, Try.ntmps127
  go_wp2_with fail
  go_ret
  exact ⟨rfl, rfl⟩
def cmpI (x y : Int) : Int := if x < y then -1 else if y < x then 1 else 0
theorem compare_any (w : World) (x y : Int) : Calls Try.prog 103 #[.int .i64 x, .int .i64 y] w fun e w' => e = .returned (.int .i64 (cmpI x y)) ∧ w = w' := by
  have h1 := Aside0.mk (isNaN_any w)
  by_cases h : x < y
  · go_enter Try.func103, Try.ntmps103
    go_wp2_with ((with_reducible refine (h1.out _).mono ?_); rintro e w' ⟨rfl, rfl⟩)
    go_ret
    exact ⟨ret_int (by unfold cmpI; rw [if_pos h]), rfl⟩
  · by_cases k : y < x
    · go_enter Try.func103, Try.ntmps103
      go_wp2_with ((with_reducible refine (h1.out _).mono ?_); rintro e w' ⟨rfl, rfl⟩)
      go_ret
      exact ⟨ret_int (by unfold cmpI; rw [if_neg (by omega), if_pos (by omega)]), rfl⟩
    · go_enter Try.func103, Try.ntmps103
      go_wp2_with ((with_reducible refine (h1.out _).mono ?_); rintro e w' ⟨rfl, rfl⟩)
      go_ret
      exact ⟨ret_int (by unfold cmpI; rw [if_neg (by omega), if_neg (by omega)]), rfl⟩

def upto (n : Nat) : List Int := (List.range n).map fun (i : Nat) => (i : Int)
theorem upto_succ (n : Nat) : upto (n + 1) = upto n ++ [(n : Int)] := by unfold upto; rw [List.range_succ, List.map_append]; rfl
theorem upto_length (n : Nat) : (upto n).length = n := by simp [upto]

end Go.Proofs.Ythkfahkkcjagdaa
end
section
namespace Go.Proofs.Ythkfahkkcjagdaa
open Go.RowKit Go.Proofs.YthkfahkkcjagdaaW.PrintWords Go.Proofs.YthkfahkkcjagdaaW.PrintMore Go.Proofs.YthkfahkkcjagdaaW.PrintLast

/-! ### The insertion sort of the library, by whatever comparison that is a closure over one variable. -/
/-- One number more into what is sorted, the last one first: it goes ahead of all that are greater. -/
def insR (cf : Int → Int → Int) (x : Int) : List Int → List Int
  | [] => [x]
  | y :: l => if cf x y < 0 then y :: insR cf x l else x :: y :: l
def srtR (cf : Int → Int → Int) (l : List Int) : List Int := l.foldl (fun acc x => insR cf x acc) []
/-- The stable sort of a list by insertion. -/
def srt (cf : Int → Int → Int) (l : List Int) : List Int := (srtR cf l).reverse
theorem insR_length (cf : Int → Int → Int) (x : Int) : ∀ l, (insR cf x l).length = l.length + 1
  | [] => rfl
  | y :: l => by
    unfold insR
    split
    · simp [insR_length cf x l]
    · simp
theorem srtR_snoc (cf : Int → Int → Int) (l : List Int) (x : Int) : srtR cf (l ++ [x]) = insR cf x (srtR cf l) := by
  unfold srtR; rw [List.foldl_append]; rfl
theorem insR_mem (cf : Int → Int → Int) (x : Int) : ∀ l y, y ∈ insR cf x l ↔ y = x ∨ y ∈ l
  | [], y => by simp [insR]
  | z :: l, y => by
    unfold insR
    split
    · rw [List.mem_cons, insR_mem cf x l y, List.mem_cons]
      constructor
      · rintro (h | h | h)
        · exact .inr (.inl h)
        · exact .inl h
        · exact .inr (.inr h)
      · rintro (h | h | h)
        · exact .inr (.inl h)
        · exact .inl h
        · exact .inr (.inr h)
    · rw [List.mem_cons]

/-- What a comparison closure over the variable at block b answers, wherever I holds. -/
structure CmpC (k b : Nat) (I : World → Prop) (cf : Int → Int → Int) (dom : Int → Prop) (g : Nat) : Prop where
  en : ∀ (args : Array Value) (W : World), (callFunc k args).run Try.prog W = .ok (.enter k args) W
  calls : ∀ (W : World) (x y : Int), I W → dom x → dom y → Calls Try.prog k #[.int .i64 x, .int .i64 y, .pointer (some ⟨b, 0, none⟩)] W fun e w' => e = .returned (.int .i64 (cf x y)) ∧ Below W.heap.size W w'
  keep : ∀ W W', I W → Kp (fun i => i = g) W W' → I W'

theorem two_at (P Q : List Int) (x y : Int) : (P ++ y :: x :: Q).getD P.length 0 = y ∧ (P ++ y :: x :: Q).getD (P.length + 1) 0 = x ∧ ((P ++ y :: x :: Q).set (P.length + 1) y).set P.length x = P ++ x :: y :: Q := by
  refine ⟨?_, ?_, ?_⟩
  · simp [List.getD_eq_getElem?_getD]
  · simp [List.getD_eq_getElem?_getD]
  · rw [List.set_append_right _ _ (by omega), List.set_append_right _ _ (by omega)]
    simp

/-- The data while the number x goes down. -/
def midD (xs : List Int) (lo i : Nat) (At Bt : List Int) (x : Int) : List Int := xs.take lo ++ (At.reverse ++ x :: (Bt.reverse ++ xs.drop (i + 1)))

set_option maxHeartbeats 8000000 in
set_option maxRecDepth 100000 in
theorem isort_any {k b g : Nat} {I : World → Prop} {cf : Int → Int → Int} {dom : Int → Prop} (hC : CmpC k b I cf dom g) (xs : List Int) (hx : ∀ x ∈ xs, dom x) (w : World) (hg : Blk w g (ints xs) 3) (hI : I w) (lo hi : Nat) (hlh : lo ≤ hi) (hh : hi ≤ xs.length) (n c : Nat) (hn : xs.length ≤ n) (hn2 : n ≤ 1000000) :
    Calls Try.prog 134 #[.slice (some ⟨g, 0, none⟩) n c, .int .i64 lo, .int .i64 hi, .func (.func k) #[] #[.pointer (some ⟨b, 0, none⟩)]] w
      fun e w' => e = .returned (.tuple #[]) ∧ Kp (fun i => i = g) w w' ∧ Blk w' g (ints (xs.take lo ++ (srt cf ((xs.drop lo).take (hi - lo)) ++ xs.drop hi))) 3 := by
  have hen := hC.en
  have HC := Aside0.mk hC; clear hC
  have HX := Aside0.mk hx; clear hx
  have HG := Aside0.mk hg; clear hg
  have HI := Aside0.mk hI; clear hI
  go_enter Try.func134, Try.ntmps134
  go_wp2_with fail
  go_loopw [8] (fun v wr => ∃ i : Nat, v = .int .i64 i ∧ lo + 1 ≤ i ∧ (i ≤ hi ∨ i = lo + 1) ∧ Aside0 (Kp (fun i => i = g) w wr) ∧ Aside0 (Blk wr g (ints (xs.take lo ++ (srt cf ((xs.drop lo).take (min i hi - lo)) ++ xs.drop (min i hi)))) 3)) (fun v _ => hi - (intOf v).toNat)
  case atStart =>
    refine ⟨lo + 1, by go_num, by omega, by omega, ⟨Kp.refl _ _⟩, ⟨?_⟩⟩
    have e : xs.take lo ++ (srt cf ((xs.drop lo).take (min (lo + 1) hi - lo)) ++ xs.drop (min (lo + 1) hi)) = xs := by
      rcases Nat.lt_or_ge lo hi with h | h
      · rw [show min (lo + 1) hi = lo + 1 by omega, show lo + 1 - lo = 1 by omega, List.drop_eq_getElem_cons (show lo < xs.length by omega), List.take_succ_cons, List.take_zero]
        show xs.take lo ++ ([xs[lo]] ++ xs.drop (lo + 1)) = xs
        rw [List.singleton_append, ← List.drop_eq_getElem_cons, List.take_append_drop]
      · rw [show min (lo + 1) hi = lo by omega, Nat.sub_self, List.take_zero]
        show xs.take lo ++ ([] ++ xs.drop lo) = xs
        rw [List.nil_append, List.take_append_drop]
    rw [e]; exact HG.out
  case round =>
    obtain ⟨i, rfl, hi1, hi2, hk, hb⟩ := hrel
    by_cases hlt : i < hi
    · have hil : i < xs.length := by omega
      obtain ⟨x, hxx⟩ : ∃ z, z = xs[i] := ⟨_, rfl⟩
      obtain ⟨R, hR⟩ : ∃ z, z = srtR cf ((xs.drop lo).take (i - lo)) := ⟨_, rfl⟩
      have hRl : R.length = i - lo := by
        rw [hR]
        have key : ∀ (l : List Int) (acc : List Int), (l.foldl (fun acc x => insR cf x acc) acc).length = acc.length + l.length := by
          intro l
          induction l with
          | nil => intro acc; simp
          | cons a l ih => intro acc; rw [List.foldl_cons, ih, insR_length]; simp; omega
        rw [srtR, key]; simp; omega
      have hRd : ∀ y ∈ R, dom y := by
        have key : ∀ (l : List Int) (acc : List Int), ∀ y ∈ l.foldl (fun acc x => insR cf x acc) acc, y ∈ acc ∨ y ∈ l := by
          intro l
          induction l with
          | nil => intro acc y hy; exact .inl hy
          | cons a l ih =>
            intro acc y hy
            rw [List.foldl_cons] at hy
            rcases ih _ y hy with h | h
            · rcases (insR_mem cf a acc y).1 h with rfl | h
              · exact .inr List.mem_cons_self
              · exact .inl h
            · exact .inr (List.mem_cons_of_mem _ h)
        intro y hy
        rw [hR] at hy
        rcases key _ _ y hy with h | h
        · simp at h
        · exact HX.out y (List.mem_of_mem_drop (List.mem_of_mem_take h))
      have hxd : dom x := HX.out x (by rw [hxx]; exact List.getElem_mem hil)
      have hb0 : Blk wr g (ints (midD xs lo i R [] x)) 3 := by
        have := hb.out
        rw [show min i hi = i by omega, srt, ← hR, List.drop_eq_getElem_cons hil, ← hxx] at this
        exact this
      have hseg : srt cf ((xs.drop lo).take (i + 1 - lo)) = (insR cf x R).reverse := by
        rw [show i + 1 - lo = (i - lo) + 1 by omega, List.take_succ_eq_append_getElem (by simp; omega), srt, srtR_snoc, ← hR, hxx]
        simp [show lo + (i - lo) = i by omega]
      have HSEG := Aside0.mk hseg; clear hseg hxx hR
      have HRD := Aside0.mk hRd; clear hRd
      have HXD := Aside0.mk hxd; clear hxd
      have HB0 := Aside0.mk hb0; clear hb0 hb
      go_wp2_with fail
      go_loopw [9] (fun v w2 => ∃ (J : Int) (At Bt : List Int), v = .int .i64 J ∧ Aside0 (J = (lo + At.length : Nat)) ∧ lo ≤ J ∧ J ≤ i ∧ At.length + Bt.length = i - lo ∧ Aside0 (Kp (fun i => i = g) w w2) ∧ Aside0 (Blk w2 g (ints (midD xs lo i At Bt x)) 3) ∧ Aside0 (∀ y ∈ At, dom y) ∧ Aside0 (insR cf x R = Bt ++ insR cf x At)) (fun v _ => (intOf v).toNat)
      case atStart => exact ⟨i, R, [], rfl, ⟨by omega⟩, by omega, by omega, by simp; omega, hk, HB0, HRD, ⟨rfl⟩⟩
      case round =>
        obtain ⟨J, At, Bt, rfl, hJ, hJ0, hJ1, hlen, hk2, hb2, hd2, hins⟩ := hrel
        cases At with
        | nil =>
          have hJl : ¬ (lo : Int) < J := by have := hJ.out; simp at this; omega
          have hd : decide ((lo : Int) < J) = false := by simpa using hJl
          have hfin : Aside0 (Blk wr g (ints (xs.take lo ++ (srt cf ((xs.drop lo).take (min (i + 1) hi - lo)) ++ xs.drop (min (i + 1) hi)))) 3) := by
            refine ⟨?_⟩
            have := hb2.out
            rw [show min (i + 1) hi = i + 1 by omega, HSEG.out, hins.out]
            unfold midD at this
            simpa [insR] using this
          clear hb2 hins
          go_wp2_with fail
          go_quiet (fail)
          go_wp2_with fail
          go_roundw
          case rel => exact ⟨i + 1, by go_num, by omega, by omega, ⟨hk2.out.drewN _⟩, ⟨hfin.out.drewN _⟩⟩
          case measure => simp [intOf]; omega
        | cons y A =>
          obtain ⟨P, hP⟩ : ∃ z, z = xs.take lo ++ A.reverse := ⟨_, rfl⟩
          obtain ⟨Q, hQ⟩ : ∃ z, z = Bt.reverse ++ xs.drop (i + 1) := ⟨_, rfl⟩
          have hPl : P.length = lo + A.length := by rw [hP]; simp; omega
          have hmid : midD xs lo i (y :: A) Bt x = P ++ y :: x :: Q := by unfold midD; rw [hP, hQ]; simp
          have hmid2 : midD xs lo i A (Bt ++ [y]) x = P ++ x :: y :: Q := by unfold midD; rw [hP, hQ]; simp
          have hb3 := hb2.out
          rw [hmid] at hb3
          have hJP : J = P.length + 1 := by have := hJ.out; simp at this; omega
          have t := two_at P Q x y
          have hPn : P.length + 1 < (P ++ y :: x :: Q).length := by simp
          have hJl : (lo : Int) < J := by omega
          have hlA : A.length + 1 + Bt.length = i - lo := by simpa using hlen
          have hJA : J - 1 = (lo + A.length : Nat) := by omega
          have c1 : wr.cell? ⟨g, J.toNat, none⟩ = some (.int .i64 x) := by
            rw [show J.toNat = P.length + 1 by omega]
            have := hb3.at_ (ints_get _ hPn)
            rwa [t.2.1] at this
          have c2 : wr.cell? ⟨g, (J - 1).toNat, none⟩ = some (.int .i64 y) := by
            rw [show (J - 1).toNat = P.length by omega]
            have := hb3.at_ (ints_get _ (show P.length < (P ++ y :: x :: Q).length by omega))
            rwa [t.1] at this
          have hJn : J < n := by have : xs.length ≤ n := hn; omega
          have hins2 : insR cf x (y :: A) = if cf x y < 0 then y :: insR cf x A else x :: y :: A := rfl
          have hyd : dom y := hd2.out y List.mem_cons_self
          have hAd : ∀ z ∈ A, dom z := fun z hz => hd2.out z (List.mem_cons_of_mem _ hz)
          have hIr : I wr := HC.out.keep _ _ HI.out hk2.out
          have T := Aside0.mk t; clear t
          have HP := Aside0.mk (And.intro hP (And.intro hQ (And.intro hPl (And.intro hmid2 (And.intro hJP (And.intro hJA (And.intro hlA hins2))))))); clear hP hQ hPl hmid hmid2 hJP hJA hlA hins2 hlen hJ
          have HAD := Aside0.mk hAd; clear hAd
          have HB3 := Aside0.mk hb3; clear hb3 hb2 hd2
          have HPN := Aside0.mk hPn; clear hPn
          have HCL := Aside0.mk (fun W hW => HC.out.calls W x y hW HXD.out hyd); clear hyd
          have hd : decide ((lo : Int) < J) = true := by simpa using hJl
          go_upto_region 4 with fail
          go_cut [34] from 18 to 52 (fun a w3 => a = .bool (decide (cf x y < 0)) ∧ Aside0 (Below wr.heap.size wr w3))
          case first =>
            have c2b : wr.cell? ⟨g, J.toNat - 1, none⟩ = some (.int .i64 y) := by
              rw [show J.toNat - 1 = (J - 1).toNat by omega]; exact c2
            have j0 : 0 ≤ J := by omega
            have j1 : 1 ≤ J := by omega
            have j2 : 0 ≤ J - 1 := by omega
            have j3 : J - 1 < n := by omega
            have j4 : IntKind.i64.wrap (J - 1) = J - 1 := IntWalk.i64_in _ (by omega)
            go_still_tail 14, (by kernel_rfl)
            clear j4
            change wpList _ _ _ _ _ wr.drew
            go_wp2_with ((with_reducible refine (HCL.out _ ?_).mono ?_); (first | exact HC.out.keep _ _ hIr ((Kp.refl _ _).drew) | exact hIr); rintro e5 w5 ⟨rfl, hb5⟩)
            go_meet
            case rel => exact ⟨rfl, ⟨below_step (below_drew (Below.refl _ _)) hb5⟩⟩
          case rest =>
          obtain ⟨rfl, ⟨hb4⟩⟩ := hcut
          have hb5 := HB3.out.below hb4
          have hk5 := hk2.out.then_below hb4
          obtain ⟨hP, hQ, hPl, hmid2, hJP, hJA, hlA, hins2⟩ := HP.out
          clear c1 c2 hIr HCL HB3 hb4 hk2 hd
          have HK5 := Aside0.mk hk5; clear hk5
          have HB5 := Aside0.mk hb5; clear hb5
          by_cases hlt0 : cf x y < 0
          · have c1 : wc.cell? ⟨g, J.toNat, none⟩ = some (.int .i64 x) := by
              rw [show J.toNat = P.length + 1 by omega]
              have := HB5.out.at_ (ints_get _ HPN.out)
              rwa [T.out.2.1] at this
            have c2 : wc.cell? ⟨g, J.toNat - 1, none⟩ = some (.int .i64 y) := by
              rw [show J.toNat - 1 = P.length by omega]
              have := HB5.out.at_ (ints_get _ (show P.length < (P ++ y :: x :: Q).length by have := HPN.out; omega))
              rwa [T.out.1] at this
            have c2b : wc.cell? ⟨g, (J - 1).toNat, none⟩ = some (.int .i64 y) := by
              rw [show (J - 1).toNat = J.toNat - 1 by omega]; exact c2
            have fr := HB5.out.free
            have j1 : 1 ≤ J := by omega
            have j3 : J - 1 < n := by omega
            have hnew : Aside0 (Blk ((wc.setCell ⟨g, J.toNat, none⟩ (.int .i64 y)).setCell ⟨g, J.toNat - 1, none⟩ (.int .i64 x)) g (ints (midD xs lo i A (Bt ++ [y]) x)) 3) := by
              refine ⟨?_⟩
              rw [hmid2, show J.toNat = P.length + 1 by omega, show P.length + 1 - 1 = P.length by omega, ← T.out.2.2, ← ints_set, ← ints_set]
              exact (HB5.out.set _ _).set _ _
            have hnew2 : Aside0 (Blk ((wc.setCell ⟨g, J.toNat - 1, none⟩ (.int .i64 x)).setCell ⟨g, J.toNat, none⟩ (.int .i64 y)) g (ints (midD xs lo i A (Bt ++ [y]) x)) 3) := by
              refine ⟨?_⟩
              rw [hmid2, show J.toNat = P.length + 1 by omega, show P.length + 1 - 1 = P.length by omega, ← T.out.2.2, List.set_comm _ _ (by omega), ← ints_set, ← ints_set]
              exact (HB5.out.set _ _).set _ _
            have hins3 : Aside0 (insR cf x R = (Bt ++ [y]) ++ insR cf x A) := ⟨by rw [hins.out, hins2, if_pos hlt0]; simp⟩
            have HP2 := Aside0.mk (And.intro hJA hlA)
            clear hP hQ hPl hmid2 hJP hJA hlA hins2 HP T HPN hins HB5
            go_upto_region 6 with fail
            go_region
            go_wp2_with fail
            go_roundw
            case rel => exact ⟨J - 1, A, Bt ++ [y], by go_num, ⟨HP2.out.1⟩, by have := HP2.out.1; omega, by omega, by have := HP2.out.2; simp; omega, ⟨((HK5.out.setCell (fun _ => rfl) _).setCell (fun _ => rfl) _).drew⟩, (by first | exact ⟨hnew.out.drew⟩ | exact ⟨hnew2.out.drew⟩), HAD, hins3⟩
            case measure => simp [intOf]; omega
          · have hd : decide (cf x y < 0) = false := by simpa using hlt0
            have hfin : Aside0 (Blk wc g (ints (xs.take lo ++ (srt cf ((xs.drop lo).take (min (i + 1) hi - lo)) ++ xs.drop (min (i + 1) hi)))) 3) := by
              refine ⟨?_⟩
              have := HB5.out
              rw [show min (i + 1) hi = i + 1 by omega, HSEG.out, hins.out, hins2, if_neg hlt0]
              rw [hP, hQ] at this
              simpa using this
            clear hP hQ hPl hmid2 hJP hJA hlA hins2 HP T HPN hins HB5 hlt0
            rw [hd]
            go_wp2_with fail
            go_roundw
            case rel => exact ⟨i + 1, by go_num, by omega, by omega, HK5, hfin⟩
            case measure => simp [intOf]; omega
    · go_wp2_with fail
      go_end0
      refine ⟨rfl, hk.out, ?_⟩
      have := hb.out
      rwa [show min i hi = hi by omega] at this
end Go.Proofs.Ythkfahkkcjagdaa
end
section
namespace Go.Proofs.Ythkfahkkcjagdaa
open Go.RowKit Go.Proofs.YthkfahkkcjagdaaW.PrintWords Go.Proofs.YthkfahkkcjagdaaW.PrintMore Go.Proofs.YthkfahkkcjagdaaW.PrintLast

/-- What the stable sort of a list leaves. -/
def SortsTo (f : Nat) (cf : Int → Int → Int) (dom : Int → Prop) (k b g : Nat) (I : World → Prop) (xs : List Int) : Prop :=
  ∀ (w : World), (∀ x ∈ xs, dom x) → Blk w g (ints xs) 3 → I w → CmpC k b I cf dom g →
    Calls Try.prog f #[.slice (some ⟨g, 0, none⟩) xs.length xs.length, .func (.func k) #[] #[.pointer (some ⟨b, 0, none⟩)]] w
      fun e w' => e = .returned (.tuple #[]) ∧ Kp (fun i => i = g) w w' ∧ Blk w' g (ints (srt cf xs)) 3

theorem srt_length (cf : Int → Int → Int) (l : List Int) : (srt cf l).length = l.length := by
  have key : ∀ (l acc : List Int), (l.foldl (fun acc x => insR cf x acc) acc).length = acc.length + l.length := by
    intro l
    induction l with
    | nil => intro acc; simp
    | cons a l ih => intro acc; rw [List.foldl_cons, ih, insR_length]; simp; omega
  unfold srt srtR
  rw [List.length_reverse, key]; simp
theorem upto_mem (n : Nat) (x : Int) : x ∈ upto n ↔ 0 ≤ x ∧ x < n := by
  unfold upto
  rw [List.mem_map]
  constructor
  · rintro ⟨i, hi, rfl⟩
    have := List.mem_range.1 hi; omega
  · intro h
    exact ⟨x.toNat, List.mem_range.2 (by omega), by omega⟩

end Go.Proofs.Ythkfahkkcjagdaa
end
section
namespace Go.Proofs.Ythkfahkkcjagdaa
open Go.RowKit Go.Proofs.YthkfahkkcjagdaaW.PrintWords Go.Proofs.YthkfahkkcjagdaaW.PrintMore Go.Proofs.YthkfahkkcjagdaaW.PrintLast

/-- The elements from a up to b. -/
def seg (xs : List Int) (a b : Nat) : List Int := (xs.take b).drop a
theorem seg_length (xs : List Int) (a b : Nat) (h : b ≤ xs.length) : (seg xs a b).length = b - a := by unfold seg; rw [List.length_drop, List.length_take]; omega
theorem seg_get (xs : List Int) (a b i : Nat) (h : i < b - a) : (seg xs a b)[i]? = xs[a + i]? := by
  unfold seg; rw [List.getElem?_drop, List.getElem?_take, if_pos (by omega)]
theorem seg_empty (xs : List Int) {a b : Nat} (h : b ≤ a) : seg xs a b = [] := by
  unfold seg; apply List.drop_eq_nil_of_le; rw [List.length_take]; omega
theorem seg_split (xs : List Int) {a m b : Nat} (h1 : a ≤ m) (h2 : m ≤ b) : seg xs a b = seg xs a m ++ seg xs m b := by
  have key : ∀ ys : List Int, ys.drop a = (ys.take m).drop a ++ ys.drop m := fun ys => by
    have e1 : (ys.take m).drop a = (ys.drop a).take (m - a) := List.drop_take
    have e2 : ys.drop m = (ys.drop a).drop (m - a) := by rw [List.drop_drop]; congr 1; omega
    rw [e1, e2, List.take_append_drop]
  unfold seg
  have e : xs.take m = (xs.take b).take m := by rw [List.take_take, Nat.min_eq_left h2]
  rw [e]
  exact key _
theorem seg_one (xs : List Int) {a : Nat} (h : a < xs.length) : seg xs a (a + 1) = [xs.getD a 0] := by
  unfold seg
  rw [List.take_succ_eq_append_getElem h, List.drop_append, List.length_take, List.drop_eq_nil_of_le (by rw [List.length_take]; omega), show a - min a xs.length = 0 by omega]
  simp [List.getD_eq_getElem?_getD, List.getElem?_eq_getElem h]
theorem seg_whole (xs : List Int) {a b : Nat} (h : a ≤ b) : xs = xs.take a ++ (seg xs a b ++ xs.drop b) := by
  unfold seg
  have : xs.take a = (xs.take b).take a := by rw [List.take_take, Nat.min_eq_left h]
  rw [← List.append_assoc, this, List.take_append_drop, List.take_append_drop]
theorem mem_seg {xs : List Int} {a b : Nat} {x : Int} (h : x ∈ seg xs a b) : ∃ i, a ≤ i ∧ i < b ∧ i < xs.length ∧ xs.getD i 0 = x := by
  obtain ⟨i, hi, rfl⟩ := List.mem_iff_getElem.1 h
  have hl : i < b - a ∧ a + i < xs.length := by
    unfold seg at hi; rw [List.length_drop, List.length_take] at hi; omega
  refine ⟨a + i, by omega, by omega, hl.2, ?_⟩
  have := seg_get xs a b i hl.1
  rw [List.getElem?_eq_getElem hi] at this
  rw [List.getD_eq_getElem?_getD, ← this]; rfl
theorem seg_mem {xs : List Int} {a b i : Nat} (h1 : a ≤ i) (h2 : i < b) (h3 : i < xs.length) : xs.getD i 0 ∈ seg xs a b := by
  have := seg_get xs a b (i - a) (by omega)
  rw [show a + (i - a) = i by omega, List.getElem?_eq_getElem h3] at this
  rw [List.getD_eq_getElem?_getD, List.getElem?_eq_getElem h3]
  exact List.mem_of_getElem? this
theorem seg_pw {L : Int → Int → Prop} {xs : List Int} {a b : Nat} (h : (seg xs a b).Pairwise L) {i j : Nat} (h1 : a ≤ i) (h2 : i < j) (h3 : j < b) (h4 : j < xs.length) : L (xs.getD i 0) (xs.getD j 0) := by
  rw [seg_split xs (show a ≤ j by omega) (show j ≤ b by omega)] at h
  exact (List.pairwise_append.1 h).2.2 _ (seg_mem h1 h2 (by omega)) _ (seg_mem (Nat.le_refl _) h3 h4)
/-- The segments from a to m and from m to b in the other order. -/
def rotL (xs : List Int) (a m b : Nat) : List Int := xs.take a ++ ((seg xs m b ++ seg xs a m) ++ xs.drop b)
theorem rotL_length (xs : List Int) {a m b : Nat} (h1 : a ≤ m) (h2 : m ≤ b) (h3 : b ≤ xs.length) : (rotL xs a m b).length = xs.length := by
  unfold rotL
  rw [List.length_append, List.length_append, List.length_append, seg_length _ _ _ h3, seg_length _ _ _ (by omega), List.length_take, List.length_drop]
  omega
theorem rotL_left (xs : List Int) {a b : Nat} (h : a ≤ b) : rotL xs a a b = xs := by
  unfold rotL; rw [seg_empty xs (Nat.le_refl a), List.append_nil]; exact (seg_whole xs h).symm
theorem rotL_right (xs : List Int) {a b : Nat} (h : a ≤ b) : rotL xs a b b = xs := by
  unfold rotL; rw [seg_empty xs (Nat.le_refl b), List.nil_append]; exact (seg_whole xs h).symm
/-- What only turns within a segment. -/
structure Fr (xs ys : List Int) (a b : Nat) : Prop where
  len : ys.length = xs.length
  lo : ys.take a = xs.take a
  hi : ys.drop b = xs.drop b
  perm : (seg ys a b).Perm (seg xs a b)
theorem take_seg (ys xs : List Int) {a : Nat} (h : ys.take a = xs.take a) {i j : Nat} (hj : j ≤ a) : seg ys i j = seg xs i j := by
  unfold seg
  have : ys.take j = xs.take j := by
    have e := congrArg (List.take j) h
    rwa [List.take_take, List.take_take, Nat.min_eq_left hj] at e
  rw [this]
theorem drop_seg (ys xs : List Int) {b : Nat} (_ : ys.length = xs.length) (h : ys.drop b = xs.drop b) {i j : Nat} (hi : b ≤ i) : seg ys i j = seg xs i j := by
  have : ∀ zs : List Int, seg zs i j = ((zs.drop b).drop (i - b)).take (j - i) := fun zs => by
    unfold seg
    rw [List.drop_take, List.drop_drop]
    congr 1
    congr 1
    omega
  rw [this, this, h]
theorem Fr.trans {xs ys zs : List Int} {a b : Nat} (h : Fr xs ys a b) (k : Fr ys zs a b) : Fr xs zs a b :=
  ⟨k.len.trans h.len, k.lo.trans h.lo, k.hi.trans h.hi, k.perm.trans h.perm⟩
theorem Fr.refl (xs : List Int) (a b : Nat) : Fr xs xs a b := ⟨rfl, rfl, rfl, List.Perm.refl _⟩
theorem Fr.mono {xs ys : List Int} {a b a' b' : Nat} (h : Fr xs ys a' b') (h1 : a ≤ a') (h2 : a' ≤ b') (h3 : b' ≤ b) : Fr xs ys a b := by
  refine ⟨h.len, ?_, ?_, ?_⟩
  · have e := congrArg (List.take a) h.lo
    rwa [List.take_take, List.take_take, Nat.min_eq_left h1] at e
  · have e := congrArg (List.drop (b - b')) h.hi
    rw [List.drop_drop, List.drop_drop] at e
    rwa [show b' + (b - b') = b by omega] at e
  · rw [seg_split ys h1 (show a' ≤ b by omega), seg_split xs h1 (show a' ≤ b by omega), seg_split ys h2 h3, seg_split xs h2 h3, take_seg ys xs h.lo (Nat.le_refl a'), drop_seg ys xs h.len h.hi (Nat.le_refl b')]
    exact List.Perm.append_left _ (h.perm.append_right _)
theorem rotL_take (xs : List Int) {a m b : Nat} (h3 : a ≤ xs.length) : (rotL xs a m b).take a = xs.take a := by
  unfold rotL
  rw [List.take_append, List.length_take, show a - min a xs.length = 0 by omega, List.take_zero, List.append_nil, List.take_take, Nat.min_self]
theorem rotL_drop (xs : List Int) {a m b : Nat} (h1 : a ≤ m) (h2 : m ≤ b) (h3 : b ≤ xs.length) : (rotL xs a m b).drop b = xs.drop b := by
  unfold rotL
  rw [← List.append_assoc]
  have hl : (xs.take a ++ (seg xs m b ++ seg xs a m)).length = b := by
    rw [List.length_append, List.length_append, seg_length _ _ _ h3, seg_length _ _ _ (by omega), List.length_take]; omega
  rw [List.drop_append, hl, Nat.sub_self, List.drop_zero, List.drop_eq_nil_of_le (by omega), List.nil_append]
theorem rotL_seg (xs : List Int) {a m b : Nat} (h1 : a ≤ m) (h2 : m ≤ b) (h3 : b ≤ xs.length) : seg (rotL xs a m b) a b = seg xs m b ++ seg xs a m := by
  have hl : (xs.take a ++ (seg xs m b ++ seg xs a m)).length = b := by
    rw [List.length_append, List.length_append, seg_length _ _ _ h3, seg_length _ _ _ (by omega), List.length_take]; omega
  have e : (rotL xs a m b).take b = xs.take a ++ (seg xs m b ++ seg xs a m) := by
    unfold rotL
    rw [← List.append_assoc, List.take_append, hl, Nat.sub_self, List.take_zero, List.append_nil, List.take_of_length_le (by omega)]
  show ((rotL xs a m b).take b).drop a = _
  rw [e, List.drop_append, List.length_take, show a - min a xs.length = 0 by omega, List.drop_zero, List.drop_eq_nil_of_le (by rw [List.length_take]; omega), List.nil_append]
theorem rotL_Fr (xs : List Int) {a m b : Nat} (h1 : a ≤ m) (h2 : m ≤ b) (h3 : b ≤ xs.length) : Fr xs (rotL xs a m b) a b :=
  ⟨rotL_length xs h1 h2 h3, rotL_take xs (by omega), rotL_drop xs h1 h2 h3, by rw [rotL_seg xs h1 h2 h3, seg_split xs h1 h2]; exact List.perm_append_comm⟩
/-- The rotation's two parts: as far as the length of the second, and behind it. -/
theorem rotL_seg1 (xs : List Int) {a m b : Nat} (h1 : a ≤ m) (h2 : m ≤ b) (h3 : b ≤ xs.length) : seg (rotL xs a m b) a (a + (b - m)) = seg xs m b ∧ seg (rotL xs a m b) (a + (b - m)) b = seg xs a m := by
  have e := rotL_seg xs h1 h2 h3
  rw [seg_split _ (show a ≤ a + (b - m) by omega) (show a + (b - m) ≤ b by omega)] at e
  exact List.append_inj e (by rw [seg_length _ _ _ (by rw [rotL_length xs h1 h2 h3]; omega), seg_length _ _ _ h3]; omega)

/-! ### The swap of two blocks -/
theorem set_mid (X Y : List Int) (u v : Int) (n : Nat) (h : n = X.length) : (X ++ u :: Y).set n v = X ++ v :: Y := by
  subst h
  rw [List.set_append_right _ _ (Nat.le_refl _), Nat.sub_self, List.set_cons_zero]
theorem get_mid (X Y : List Int) (u : Int) (n : Nat) (h : n = X.length) : (X ++ u :: Y).getD n 0 = u := by
  subst h
  simp [List.getD_eq_getElem?_getD]
/-- Two elements in the other order. -/
def swapL (xs : List Int) (i j : Nat) : List Int := (xs.set i (xs.getD j 0)).set j (xs.getD i 0)
theorem swapL_length (xs : List Int) (i j : Nat) : (swapL xs i j).length = xs.length := by unfold swapL; simp
theorem swapL_mid (X Y Z : List Int) (u v : Int) (i j : Nat) (hi : i = X.length) (hj : j = X.length + 1 + Y.length) : swapL (X ++ u :: (Y ++ v :: Z)) i j = X ++ v :: (Y ++ u :: Z) := by
  have e1 : (X ++ u :: (Y ++ v :: Z)).getD j 0 = v := by
    have := get_mid (X ++ u :: Y) Z v j (by simp; omega)
    simpa using this
  have e2 : (X ++ u :: (Y ++ v :: Z)).getD i 0 = u := get_mid X _ u i hi
  unfold swapL
  rw [e1, e2, set_mid X _ u v i hi]
  have := set_mid (X ++ v :: Y) Z v u j (by simp; omega)
  simpa using this
/-- So many swaps, one beside the other. -/
def swapN (xs : List Int) (a b : Nat) : Nat → List Int
  | 0 => xs
  | n + 1 => swapL (swapN xs a b n) (a + n) (b + n)
theorem swapN_spec (P M Q : List Int) : ∀ (n : Nat) (U V : List Int) (a b : Nat), n ≤ U.length → U.length = V.length → a = P.length → b = P.length + U.length + M.length →
    swapN (P ++ (U ++ (M ++ (V ++ Q)))) a b n = P ++ ((V.take n ++ U.drop n) ++ (M ++ ((U.take n ++ V.drop n) ++ Q))) := by
  intro n
  induction n with
  | zero => intro U V a b _ _ _ _; simp [swapN]
  | succ n ih =>
    intro U V a b hn hl ha hb
    unfold swapN
    rw [ih U V a b (by omega) hl ha hb]
    have hU : n < U.length := by omega
    have hV : n < V.length := by omega
    rw [List.drop_eq_getElem_cons hU, List.drop_eq_getElem_cons hV, List.take_succ_eq_append_getElem hU, List.take_succ_eq_append_getElem hV]
    have := swapL_mid (P ++ V.take n) (U.drop (n + 1) ++ (M ++ U.take n)) (V.drop (n + 1) ++ Q) U[n] V[n] (a + n) (b + n) (by rw [List.length_append, List.length_take]; omega) (by
      rw [List.length_append, List.length_append, List.length_append, List.length_take, List.length_take, List.length_drop]; omega)
    simp only [List.append_assoc, List.cons_append, List.nil_append] at this ⊢
    exact this
theorem swapN_length (xs : List Int) (a b : Nat) : ∀ n, (swapN xs a b n).length = xs.length
  | 0 => rfl
  | n + 1 => by unfold swapN; rw [swapL_length, swapN_length xs a b n]
theorem swapN_all (P M Q U V : List Int) {a b n : Nat} (hn : n = U.length) (hl : U.length = V.length) (ha : a = P.length) (hb : b = P.length + U.length + M.length) :
    swapN (P ++ (U ++ (M ++ (V ++ Q)))) a b n = P ++ (V ++ (M ++ (U ++ Q))) := by
  rw [swapN_spec P M Q n U V a b (by omega) hl ha hb, List.take_of_length_le (by omega), List.drop_eq_nil_of_le (by omega), List.take_of_length_le (by omega), List.drop_eq_nil_of_le (by omega)]
  simp
/-- The rotation by swaps of blocks: what it comes to. -/
theorem rot_split (xs : List Int) {a m b : Nat} (h1 : a ≤ m) (h2 : m ≤ b) (h3 : b ≤ xs.length) : ∃ P U V Q, xs = P ++ (U ++ (V ++ Q)) ∧ P.length = a ∧ U.length = m - a ∧ V.length = b - m ∧ rotL xs a m b = P ++ (V ++ (U ++ Q)) := by
  refine ⟨xs.take a, seg xs a m, seg xs m b, xs.drop b, ?_, by rw [List.length_take]; omega, seg_length _ _ _ (by omega), seg_length _ _ _ h3, ?_⟩
  · have := seg_whole xs (show a ≤ b by omega)
    rw [seg_split xs h1 h2, List.append_assoc] at this
    exact this
  · unfold rotL; rw [List.append_assoc]
end Go.Proofs.Ythkfahkkcjagdaa
end
section
namespace Go.Proofs.Ythkfahkkcjagdaa
open Go.RowKit Go.Proofs.YthkfahkkcjagdaaW.PrintWords Go.Proofs.YthkfahkkcjagdaaW.PrintMore Go.Proofs.YthkfahkkcjagdaaW.PrintLast

theorem swap_blk {w : World} {g : Nat} {ys : List Int} (h : Blk w g (ints ys) 3) (i j : Nat) {u v : Int} (hu : u = ys.getD i 0) (hv : v = ys.getD j 0) :
    Blk ((w.setCell ⟨g, i, none⟩ (.int .i64 v)).setCell ⟨g, j, none⟩ (.int .i64 u)) g (ints (swapL ys i j)) 3 := by
  unfold swapL
  rw [← hu, ← hv, ← ints_set, ← ints_set]
  exact (h.set _ _).set _ _
theorem swap_blk2 {w : World} {g : Nat} {ys : List Int} (h : Blk w g (ints ys) 3) (i j : Nat) (hij : i ≠ j) {u v : Int} (hu : u = ys.getD i 0) (hv : v = ys.getD j 0) :
    Blk ((w.setCell ⟨g, j, none⟩ (.int .i64 u)).setCell ⟨g, i, none⟩ (.int .i64 v)) g (ints (swapL ys i j)) 3 := by
  unfold swapL
  rw [← hu, ← hv, List.set_comm _ _ hij, ← ints_set, ← ints_set]
  exact (h.set _ _).set _ _

set_option maxRecDepth 100000 in
set_option maxHeartbeats 4000000 in
theorem swapR_any (g : Nat) (xs : List Int) (w : World) (hg : Blk w g (ints xs) 3) (a b k n c : Nat) (f : Value) (hab : a < b) (hb : b + k ≤ xs.length) (hn : xs.length ≤ n) (hn2 : n ≤ 1000000) :
    Calls Try.prog 153 #[.slice (some ⟨g, 0, none⟩) n c, .int .i64 a, .int .i64 b, .int .i64 k, f] w fun e w' => e = .returned (.tuple #[]) ∧ Kp (fun i => i = g) w w' ∧ Blk w' g (ints (swapN xs a b k)) 3 := by
  have HG := Aside0.mk hg; clear hg
  go_enter Try.func153, Try.ntmps153
  go_wp2_with fail
  go_loopw [10] (fun v wr => ∃ i : Nat, v = .int .i64 i ∧ i ≤ k ∧ Aside0 (Kp (fun i => i = g) w wr) ∧ Aside0 (Blk wr g (ints (swapN xs a b i)) 3)) (fun v _ => k - (intOf v).toNat)
  case atStart => exact ⟨0, rfl, by omega, ⟨Kp.refl _ _⟩, HG⟩
  case round =>
    obtain ⟨i, rfl, hi, hk, hbk⟩ := hrel
    by_cases hlt : i < k
    · have hlti : (i : Int) < k := by omega
      obtain ⟨ys, hys⟩ : ∃ z, z = swapN xs a b i := ⟨_, rfl⟩
      have hyl : ys.length = xs.length := by rw [hys, swapN_length]
      have hb2 := hbk.out
      rw [← hys] at hb2
      obtain ⟨u, hu⟩ : ∃ z, z = ys.getD (a + i) 0 := ⟨_, rfl⟩
      obtain ⟨v, hv⟩ : ∃ z, z = ys.getD (b + i) 0 := ⟨_, rfl⟩
      have c1 : wr.cell? ⟨g, a + i, none⟩ = some (.int .i64 u) := by rw [hu]; exact hb2.at_ (ints_get _ (by omega))
      have c2 : wr.cell? ⟨g, b + i, none⟩ = some (.int .i64 v) := by rw [hv]; exact hb2.at_ (ints_get _ (by omega))
      have c1b : wr.cell? ⟨g, ((a : Int) + i).toNat, none⟩ = some (.int .i64 u) := by rw [show ((a : Int) + i).toNat = a + i by omega]; exact c1
      have c2b : wr.cell? ⟨g, ((b : Int) + i).toNat, none⟩ = some (.int .i64 v) := by rw [show ((b : Int) + i).toNat = b + i by omega]; exact c2
      have fr := hb2.free
      have hnew := swap_blk hb2 (a + i) (b + i) hu hv
      have hnew2 := swap_blk2 hb2 (a + i) (b + i) (by omega) hu hv
      have e : swapL ys (a + i) (b + i) = swapN xs a b (i + 1) := by rw [hys]; rfl
      rw [e] at hnew hnew2
      have HN := Aside0.mk (And.intro hnew hnew2)
      have h1 : (a : Int) + i < n := by omega
      have h2 : (b : Int) + i < n := by omega
      clear hnew hnew2 e hu hv hyl hys hbk hb2
      go_upto_region 3 with fail
      go_region
      all_goals go_wp2_with fail
      all_goals go_roundw
      case rel => exact ⟨i + 1, by go_num, by omega, ⟨((hk.out.setCell (fun _ => rfl) _).setCell (fun _ => rfl) _).drew⟩, (by first | exact ⟨HN.out.1.drew⟩ | exact ⟨HN.out.2.drew⟩)⟩
      case measure => simp [intOf]; omega
    · have hik : i = k := by omega
      go_wp2_with fail
      go_end0
      exact ⟨rfl, hk.out, by rw [← hik]; exact hbk.out⟩
set_option maxRecDepth 100000 in
set_option maxHeartbeats 4000000 in
theorem rotate_any (g : Nat) (xs : List Int) (w : World) (hg : Blk w g (ints xs) 3) (a m b n c : Nat) (f : Value) (h1 : a < m) (h2 : m < b) (h3 : b ≤ xs.length) (hn : xs.length ≤ n) (hn2 : n ≤ 1000000) :
    Calls Try.prog 147 #[.slice (some ⟨g, 0, none⟩) n c, .int .i64 a, .int .i64 m, .int .i64 b, f] w fun e w' => e = .returned (.tuple #[]) ∧ Kp (fun i => i = g) w w' ∧ Blk w' g (ints (rotL xs a m b)) 3 := by
  obtain ⟨P0, U0, V0, Q0, hx0, hP0, hU0, hV0, hr0⟩ := rot_split xs (Nat.le_of_lt h1) (Nat.le_of_lt h2) h3
  rw [hx0] at hg
  have HX0 := Aside0.mk (And.intro hP0 (And.intro hU0 (And.intro hV0 hr0)))
  have HLN : Aside0 ((P0 ++ (U0 ++ (V0 ++ Q0))).length = xs.length) := ⟨by rw [← hx0]⟩
  have HG := Aside0.mk hg
  clear hg hx0 hP0 hU0 hV0 hr0
  go_enter Try.func147, Try.ntmps147
  go_wp2_with fail
  go_loopw [10, 11] (fun v10 v11 wr => ∃ (i j : Nat) (P U V Q : List Int), v10 = .int .i64 i ∧ v11 = .int .i64 j ∧ 1 ≤ i ∧ 1 ≤ j ∧ i ≤ m ∧ m + j ≤ xs.length ∧ Aside0 (P.length + i = m ∧ U.length = i ∧ V.length = j ∧ P ++ (V ++ (U ++ Q)) = rotL xs a m b ∧ (P ++ (U ++ (V ++ Q))).length = xs.length) ∧ Aside0 (Kp (fun i => i = g) w wr) ∧ Aside0 (Blk wr g (ints (P ++ (U ++ (V ++ Q)))) 3)) (fun v10 v11 _ => (intOf v10).toNat + (intOf v11).toNat)
  case atStart =>
    obtain ⟨hP0, hU0, hV0, hr0⟩ := HX0.out
    exact ⟨m - a, b - m, P0, U0, V0, Q0, by rw [show ((m - a : Nat) : Int) = (m : Int) - a by omega], by rw [show ((b - m : Nat) : Int) = (b : Int) - m by omega], by omega, by omega, by omega, by omega, ⟨by omega, hU0, hV0, hr0.symm, HLN.out⟩, ⟨Kp.refl _ _⟩, HG⟩
  case round =>
    obtain ⟨i, j, P, U, V, Q, rfl, rfl, hi1, hj1, him, hjm, HF, HK, HB⟩ := hrel
    obtain ⟨hP, hU, hV, hr, hl⟩ := HF.out
    have hmi : ((m - i : Nat) : Int) = (m : Int) - i := by omega
    by_cases heq : i = j
    · have hc := swapR_any g (P ++ (U ++ (V ++ Q))) wr HB.out (m - i) m i n c f (by omega) (by omega) (by omega) hn2
      have e := swapN_all P [] Q U V (a := m - i) (b := m) (n := i) (by omega) (by omega) (by omega) (by simp; omega)
      rw [List.nil_append, List.nil_append] at e
      rw [e, hr, hmi] at hc
      have HC := Aside0.mk hc
      have hb : ((i : Int) != (j : Int)) = false := by simp; omega
      clear hc e hP hU hV hr hl HF hmi HG HX0 HLN
      have hij : (i : Int) ≤ j ∧ (j : Int) ≤ i := by omega
      clear heq
      go_wp2_with ((with_reducible refine HC.out.mono ?_); rintro e5 w5 ⟨rfl, hk5, hb5⟩; have H5 := Aside0.mk (And.intro hk5 hb5); clear hk5 hb5)
      go_end0
      exact ⟨rfl, HK.out.step H5.out.1, H5.out.2⟩
    · have hb : ((i : Int) != (j : Int)) = true := by simp; omega
      by_cases hgt : j < i
      · have hgti : (j : Int) < i := by omega
        have hUs : U = U.take j ++ U.drop j := (List.take_append_drop _ _).symm
        have e := swapN_all P (U.drop j) Q (U.take j) V (a := m - i) (b := m) (n := j) (by rw [List.length_take]; omega) (by rw [List.length_take]; omega) (by omega) (by rw [List.length_take, List.length_drop]; omega)
        have hxx : P ++ (U.take j ++ (U.drop j ++ (V ++ Q))) = P ++ (U ++ (V ++ Q)) := by rw [← List.append_assoc (U.take j), ← hUs]
        rw [hxx] at e
        have hc := swapR_any g (P ++ (U ++ (V ++ Q))) wr HB.out (m - i) m j n c f (by omega) (by omega) (by omega) hn2
        rw [e, hmi] at hc
        have HC := Aside0.mk hc
        have HNX : Aside0 ((P ++ V).length + (i - j) = m ∧ (U.drop j).length = i - j ∧ (U.take j).length = j ∧ (P ++ V) ++ (U.take j ++ (U.drop j ++ Q)) = rotL xs a m b ∧ ((P ++ V) ++ (U.drop j ++ (U.take j ++ Q))).length = xs.length) := ⟨by
          refine ⟨by rw [List.length_append]; omega, by rw [List.length_drop]; omega, by rw [List.length_take]; omega, ?_, ?_⟩
          · rw [← hr, ← List.append_assoc (U.take j), List.take_append_drop, List.append_assoc]
          · rw [← hl, ← hxx]; simp; omega⟩
        have HIJ : Aside0 (((i - j : Nat) : Int) = (i : Int) - j) := ⟨by omega⟩
        have hle : j ≤ i := by omega
        clear hc e hxx hUs hP hU hV hr hl HF hmi HG HX0 HLN heq
        go_wp2_with ((with_reducible refine HC.out.mono ?_); rintro e5 w5 ⟨rfl, hk5, hb5⟩; have H5 := Aside0.mk (And.intro hk5 hb5); clear hk5 hb5)
        go_roundw
        case rel => exact ⟨i - j, j, P ++ V, U.drop j, U.take j, Q, by rw [HIJ.out], rfl, by omega, by omega, by omega, by omega, HNX, ⟨HK.out.step H5.out.1⟩, ⟨by have := H5.out.2; simpa using this⟩⟩
        case measure => simp [intOf]; omega
      · have hlti : (i : Int) < j := by omega
        have hVs : V = V.take (j - i) ++ V.drop (j - i) := (List.take_append_drop _ _).symm
        have e := swapN_all P (V.take (j - i)) Q U (V.drop (j - i)) (a := m - i) (b := m + j - i) (n := i) (by omega) (by rw [List.length_drop]; omega) (by omega) (by rw [List.length_take]; omega)
        have hxx : P ++ (U ++ (V.take (j - i) ++ (V.drop (j - i) ++ Q))) = P ++ (U ++ (V ++ Q)) := by rw [← List.append_assoc (V.take (j - i)), ← hVs]
        rw [hxx] at e
        have hc := swapR_any g (P ++ (U ++ (V ++ Q))) wr HB.out (m - i) (m + j - i) i n c f (by omega) (by omega) (by omega) hn2
        rw [e, hmi, show ((m + j - i : Nat) : Int) = (m : Int) + j - i by omega] at hc
        have HC := Aside0.mk hc
        have HNX : Aside0 (P.length + i = m ∧ (V.drop (j - i)).length = i ∧ (V.take (j - i)).length = j - i ∧ P ++ (V.take (j - i) ++ (V.drop (j - i) ++ (U ++ Q))) = rotL xs a m b ∧ (P ++ (V.drop (j - i) ++ (V.take (j - i) ++ (U ++ Q)))).length = xs.length) := ⟨by
          refine ⟨hP, by rw [List.length_drop]; omega, by rw [List.length_take]; omega, ?_, ?_⟩
          · rw [← hr, ← List.append_assoc (V.take (j - i)), List.take_append_drop]
          · rw [← hl, ← hxx]; simp; omega⟩
        have HIJ : Aside0 (((j - i : Nat) : Int) = (j : Int) - i) := ⟨by omega⟩
        have hle : i ≤ j := by omega
        have hli : ¬ (j : Int) < i := by omega
        clear hc e hxx hVs hP hU hV hr hl HF hmi HG HX0 HLN heq
        go_wp2_with ((with_reducible refine HC.out.mono ?_); rintro e5 w5 ⟨rfl, hk5, hb5⟩; have H5 := Aside0.mk (And.intro hk5 hb5); clear hk5 hb5)
        go_roundw
        case rel => exact ⟨i, j - i, P, V.drop (j - i), V.take (j - i), U ++ Q, rfl, by rw [HIJ.out], by omega, by omega, by omega, by omega, HNX, ⟨HK.out.step H5.out.1⟩, ⟨H5.out.2⟩⟩
        case measure => simp [intOf]; omega
end Go.Proofs.Ythkfahkkcjagdaa
end
section
namespace Go.Proofs.Ythkfahkkcjagdaa
open Go.RowKit Go.Proofs.YthkfahkkcjagdaaW.PrintWords Go.Proofs.YthkfahkkcjagdaaW.PrintMore Go.Proofs.YthkfahkkcjagdaaW.PrintLast

structure MergeOK (cf : Int → Int → Int) (L : Int → Int → Prop) (xs : List Int) (a m b : Nat) : Prop where
  l1 : a < m
  l2 : m < b
  le : b ≤ xs.length
  s1 : (seg xs a m).Pairwise L
  s2 : (seg xs m b).Pairwise L
  cr : ∀ x ∈ seg xs a m, ∀ y ∈ seg xs m b, (cf y x < 0 ↔ L y x) ∧ (L y x ∨ L x y)
  tr : ∀ x y z, L x y → L y z → L x z
section
variable {cf : Int → Int → Int} {L : Int → Int → Prop} {xs : List Int} {a m b s e : Nat}
/-- What a comparison of one of the right with one of the left tells. -/
theorem MergeOK.yes (h : MergeOK cf L xs a m b) {i j : Nat} (hi : a ≤ i ∧ i < m) (hj : m ≤ j ∧ j < b) (hc : cf (xs.getD j 0) (xs.getD i 0) < 0) : L (xs.getD j 0) (xs.getD i 0) := by
  have hl := h.le
  have := h.l2
  exact (h.cr _ (seg_mem hi.1 hi.2 (by omega)) _ (seg_mem hj.1 hj.2 (by omega))).1.1 hc
theorem MergeOK.no (h : MergeOK cf L xs a m b) {i j : Nat} (hi : a ≤ i ∧ i < m) (hj : m ≤ j ∧ j < b) (hc : ¬ cf (xs.getD j 0) (xs.getD i 0) < 0) : L (xs.getD i 0) (xs.getD j 0) := by
  have hl := h.le
  have := h.l2
  have k := h.cr _ (seg_mem hi.1 hi.2 (by omega)) _ (seg_mem hj.1 hj.2 (by omega))
  rcases k.2 with k2 | k2
  · exact absurd (k.1.2 k2) hc
  · exact k2
theorem MergeOK.up1 (h : MergeOK cf L xs a m b) {i j : Nat} (hi : a ≤ i) (hij : i ≤ j) (hj : j < m) : xs.getD i 0 = xs.getD j 0 ∨ L (xs.getD i 0) (xs.getD j 0) := by
  rcases (show i = j ∨ i < j by omega) with rfl | hlt
  · exact .inl rfl
  · have hl := h.le
    have := h.l2
    exact .inr (seg_pw h.s1 hi hlt hj (by omega))
theorem MergeOK.up2 (h : MergeOK cf L xs a m b) {i j : Nat} (hi : m ≤ i) (hij : i ≤ j) (hj : j < b) : xs.getD i 0 = xs.getD j 0 ∨ L (xs.getD i 0) (xs.getD j 0) := by
  rcases (show i = j ∨ i < j by omega) with rfl | hlt
  · exact .inl rfl
  · have hl := h.le
    exact .inr (seg_pw h.s2 hi hlt hj (by omega))
theorem MergeOK.chain (h : MergeOK cf L xs a m b) {x y z u : Int} (h1 : x = y ∨ L x y) (h2 : L y z) (h3 : z = u ∨ L z u) : L x u := by
  have h4 : L x z := by
    rcases h1 with rfl | h1
    · exact h2
    · exact h.tr _ _ _ h1 h2
  rcases h3 with rfl | h3
  · exact h4
  · exact h.tr _ _ _ h4 h3
/-- A place s in the left segment and a place e in the right one: the left ones ahead of s stand below the right ones from e on; the right ones ahead of e stand below the left ones from s on. -/
structure Cut (L : Int → Int → Prop) (xs : List Int) (a m b s e : Nat) : Prop where
  sa : a ≤ s
  sm : s ≤ m
  em : m ≤ e
  eb : e ≤ b
  c1 : ∀ i j, a ≤ i → i < s → e ≤ j → j < b → L (xs.getD i 0) (xs.getD j 0)
  c2 : ∀ i j, m ≤ j → j < e → s ≤ i → i < m → L (xs.getD j 0) (xs.getD i 0)
theorem Cut.of_edge (h : MergeOK cf L xs a m b) {s e : Nat} (sa : a ≤ s) (sm : s ≤ m) (em : m ≤ e) (eb : e ≤ b)
    (h1 : a < s → e < b → L (xs.getD (s - 1) 0) (xs.getD e 0)) (h2 : s < m → m < e → L (xs.getD (e - 1) 0) (xs.getD s 0)) : Cut L xs a m b s e :=
  ⟨sa, sm, em, eb, fun i j hi his hj hjb => h.chain (h.up1 hi (show i ≤ s - 1 by omega) (by omega)) (h1 (by omega) (by omega)) (h.up2 em hj hjb),
    fun i j hj hje hi him => h.chain (h.up2 hj (show j ≤ e - 1 by omega) (by omega)) (h2 (by omega) (by omega)) (h.up1 sa hi him)⟩
theorem Cut.segs (k : Cut L xs a m b s e) (hl : b ≤ xs.length) : seg (rotL xs s m e) a (s + (e - m)) = seg xs a s ++ seg xs m e ∧ seg (rotL xs s m e) (s + (e - m)) b = seg xs s m ++ seg xs e b := by
  obtain ⟨sa, sm, em, eb, _, _⟩ := k
  have hF := rotL_Fr xs sm em (by omega)
  obtain ⟨e1, e2⟩ := rotL_seg1 xs sm em (show e ≤ xs.length by omega)
  constructor
  · rw [seg_split _ sa (show s ≤ s + (e - m) by omega), e1, take_seg _ xs hF.lo (Nat.le_refl s)]
  · rw [seg_split _ (show s + (e - m) ≤ e by omega) eb, e2, drop_seg _ xs hF.len hF.hi (Nat.le_refl e)]
theorem Cut.cross (h : MergeOK cf L xs a m b) (k : Cut L xs a m b s e) : ∀ x ∈ seg xs a s ++ seg xs m e, ∀ y ∈ seg xs s m ++ seg xs e b, L x y := by
  intro x hx y hy
  have sa := k.sa
  have sm := k.sm
  have em := k.em
  have eb := k.eb
  have hl := h.le
  rcases List.mem_append.1 hx with hx | hx <;> rcases List.mem_append.1 hy with hy | hy
  · obtain ⟨i, hi1, hi2, hi3, rfl⟩ := mem_seg hx
    obtain ⟨j, hj1, hj2, hj3, rfl⟩ := mem_seg hy
    exact seg_pw h.s1 hi1 (by omega) hj2 hj3
  · obtain ⟨i, hi1, hi2, hi3, rfl⟩ := mem_seg hx
    obtain ⟨j, hj1, hj2, hj3, rfl⟩ := mem_seg hy
    exact k.c1 i j hi1 hi2 hj1 hj2
  · obtain ⟨j, hj1, hj2, hj3, rfl⟩ := mem_seg hx
    obtain ⟨i, hi1, hi2, hi3, rfl⟩ := mem_seg hy
    exact k.c2 i j hj1 hj2 hi1 hi2
  · obtain ⟨i, hi1, hi2, hi3, rfl⟩ := mem_seg hx
    obtain ⟨j, hj1, hj2, hj3, rfl⟩ := mem_seg hy
    exact seg_pw h.s2 hi1 (by omega) hj2 hj3
theorem MergeOK.parts (h : MergeOK cf L xs a m b) {s e : Nat} (sa : a ≤ s) (sm : s ≤ m) (em : m ≤ e) (eb : e ≤ b) : (seg xs a s).Pairwise L ∧ (seg xs s m).Pairwise L ∧ (seg xs m e).Pairwise L ∧ (seg xs e b).Pairwise L := by
  have s1 := h.s1
  have s2 := h.s2
  rw [seg_split xs sa sm] at s1
  rw [seg_split xs em eb] at s2
  obtain ⟨p1, p2, _⟩ := List.pairwise_append.1 s1
  obtain ⟨p3, p4, _⟩ := List.pairwise_append.1 s2
  exact ⟨p1, p2, p3, p4⟩
/-- What is left to be merged on the left. -/
theorem Cut.left (h : MergeOK cf L xs a m b) (k : Cut L xs a m b s e) (h1 : a < s) (h2 : m < e) : MergeOK cf L (rotL xs s m e) a s (s + (e - m)) := by
  have sm := k.sm
  have em := k.em
  have eb := k.eb
  have hl := h.le
  obtain ⟨p1, p2, p3, p4⟩ := h.parts k.sa sm em eb
  have hF := rotL_Fr xs sm em (show e ≤ xs.length by omega)
  obtain ⟨e1, e2⟩ := rotL_seg1 xs sm em (show e ≤ xs.length by omega)
  have e3 : seg (rotL xs s m e) a s = seg xs a s := take_seg _ xs hF.lo (Nat.le_refl s)
  refine ⟨h1, by omega, by rw [hF.len]; omega, by rw [e3]; exact p1, by rw [e1]; exact p3, ?_, h.tr⟩
  rw [e3, e1]
  intro x hx y hy
  refine h.cr x ?_ y ?_
  · rw [seg_split xs k.sa sm]; exact List.mem_append_left _ hx
  · rw [seg_split xs em eb]; exact List.mem_append_left _ hy
/-- .. and on the right, behind that. -/
theorem Cut.right (h : MergeOK cf L xs a m b) (k : Cut L xs a m b s e) {ys : List Int} (hy : Fr (rotL xs s m e) ys a (s + (e - m))) (h1 : s < m) (h2 : e < b) : MergeOK cf L ys (s + (e - m)) e b := by
  have sm := k.sm
  have em := k.em
  have eb := k.eb
  have hl := h.le
  obtain ⟨p1, p2, p3, p4⟩ := h.parts k.sa sm em eb
  have hF := rotL_Fr xs sm em (show e ≤ xs.length by omega)
  obtain ⟨e1, e2⟩ := rotL_seg1 xs sm em (show e ≤ xs.length by omega)
  have e3 : seg ys (s + (e - m)) e = seg xs s m := by rw [drop_seg ys _ hy.len hy.hi (Nat.le_refl _), e2]
  have e4 : seg ys e b = seg xs e b := by
    rw [drop_seg ys _ hy.len hy.hi (show s + (e - m) ≤ e by omega), drop_seg _ xs hF.len hF.hi (Nat.le_refl e)]
  refine ⟨by omega, h2, by rw [hy.len, hF.len]; omega, by rw [e3]; exact p2, by rw [e4]; exact p4, ?_, h.tr⟩
  rw [e3, e4]
  intro x hx y hy
  refine h.cr x ?_ y ?_
  · rw [seg_split xs k.sa sm]; exact List.mem_append_right _ hx
  · rw [seg_split xs em eb]; exact List.mem_append_right _ hy
/-- Both halves merged: all is sorted. -/
theorem Cut.done (h : MergeOK cf L xs a m b) (k : Cut L xs a m b s e) {ys zs : List Int} (hy : Fr (rotL xs s m e) ys a (s + (e - m))) (py : (seg ys a (s + (e - m))).Pairwise L) (hz : Fr ys zs (s + (e - m)) b) (pz : (seg zs (s + (e - m)) b).Pairwise L) :
    Fr xs zs a b ∧ (seg zs a b).Pairwise L := by
  have sa := k.sa
  have sm := k.sm
  have em := k.em
  have eb := k.eb
  have hl := h.le
  have hF := rotL_Fr xs sm em (show e ≤ xs.length by omega)
  refine ⟨((hF.mono sa (by omega) eb).trans (hy.mono (Nat.le_refl a) (by omega) (by omega))).trans (hz.mono (by omega) (by omega) (Nat.le_refl b)), ?_⟩
  obtain ⟨q1, q2⟩ := k.segs hl
  have e1 : seg zs a (s + (e - m)) = seg ys a (s + (e - m)) := take_seg zs ys hz.lo (Nat.le_refl _)
  rw [seg_split zs (show a ≤ s + (e - m) by omega) (show s + (e - m) ≤ b by omega), e1]
  refine List.pairwise_append.2 ⟨py, pz, fun x hx y hy2 => ?_⟩
  have hx2 := hy.perm.mem_iff.1 hx
  have hy3 := hz.perm.mem_iff.1 hy2
  rw [drop_seg ys _ hy.len hy.hi (Nat.le_refl _)] at hy3
  rw [q1] at hx2
  rw [q2] at hy3
  exact k.cross h x hx2 y hy3
/-- Where a half has nothing to be merged, it is sorted. -/
theorem Cut.left0 (h : MergeOK cf L xs a m b) (k : Cut L xs a m b s e) (hn : ¬ (a < s ∧ m < e)) : (seg (rotL xs s m e) a (s + (e - m))).Pairwise L := by
  have em := k.em
  have sa := k.sa
  obtain ⟨p1, p2, p3, p4⟩ := h.parts k.sa k.sm em k.eb
  rw [(k.segs h.le).1]
  rcases (show a = s ∨ m = e by omega) with h1 | h1
  · rw [← h1, seg_empty xs (Nat.le_refl a), List.nil_append]; exact p3
  · rw [← h1, seg_empty xs (Nat.le_refl m), List.append_nil]; exact p1
theorem Cut.right0 (h : MergeOK cf L xs a m b) (k : Cut L xs a m b s e) {ys : List Int} (hy : Fr (rotL xs s m e) ys a (s + (e - m))) (hn : ¬ (s < m ∧ e < b)) : (seg ys (s + (e - m)) b).Pairwise L := by
  have sm := k.sm
  have eb := k.eb
  obtain ⟨p1, p2, p3, p4⟩ := h.parts k.sa sm k.em eb
  rw [drop_seg ys _ hy.len hy.hi (Nat.le_refl _), (k.segs h.le).2]
  rcases (show s = m ∨ e = b by omega) with h1 | h1
  · rw [h1, seg_empty xs (Nat.le_refl m), List.nil_append]; exact p4
  · rw [h1, seg_empty xs (Nat.le_refl b), List.append_nil]; exact p2
/-- One on the left: it goes to its place. -/
theorem Cut.one_left (h : MergeOK cf L xs a m b) (k : Cut L xs a m b a e) (hm : m = a + 1) (hx : e < b → L (xs.getD a 0) (xs.getD e 0)) : Fr xs (rotL xs a m e) a b ∧ (seg (rotL xs a m e) a b).Pairwise L := by
  refine k.done h (Fr.refl _ _ _) (k.left0 h (by omega)) (Fr.refl _ _ _) ?_
  have em := k.em
  have eb := k.eb
  obtain ⟨p1, p2, p3, p4⟩ := h.parts k.sa k.sm em eb
  rw [(k.segs h.le).2]
  refine List.pairwise_append.2 ⟨p2, p4, fun x hx1 y hy => ?_⟩
  obtain ⟨i, hi1, hi2, hi3, rfl⟩ := mem_seg hx1
  obtain ⟨j, hj1, hj2, hj3, rfl⟩ := mem_seg hy
  obtain rfl : i = a := by omega
  exact h.chain (.inl rfl) (hx (by omega)) (h.up2 em hj1 hj2)
/-- One on the right. -/
theorem Cut.one_right (h : MergeOK cf L xs a m b) (k : Cut L xs a m b s b) (hm : b = m + 1) (hx : a < s → L (xs.getD (s - 1) 0) (xs.getD m 0)) : Fr xs (rotL xs s m b) a b ∧ (seg (rotL xs s m b) a b).Pairwise L := by
  have sa := k.sa
  have sm := k.sm
  obtain ⟨p1, p2, p3, p4⟩ := h.parts sa sm k.em k.eb
  refine k.done h (Fr.refl _ _ _) ?_ (Fr.refl _ _ _) (k.right0 h (Fr.refl _ _ _) (by omega))
  rw [(k.segs h.le).1]
  refine List.pairwise_append.2 ⟨p1, p3, fun x hx1 y hy => ?_⟩
  obtain ⟨i, hi1, hi2, hi3, rfl⟩ := mem_seg hx1
  obtain ⟨j, hj1, hj2, hj3, rfl⟩ := mem_seg hy
  obtain rfl : j = m := by omega
  exact h.chain (h.up1 hi1 (show i ≤ s - 1 by omega) (by omega)) (hx (by omega)) (.inl rfl)
/-- The one that goes up, a step further; the one that goes down. -/
theorem rot_up (xs : List Int) {a j : Nat} (h1 : a + 1 ≤ j) (h2 : j < xs.length) : swapL (rotL xs a (a + 1) j) (j - 1) j = rotL xs a (a + 1) (j + 1) := by
  obtain ⟨d, rfl⟩ : ∃ d, j = a + 1 + d := ⟨j - (a + 1), by omega⟩
  unfold rotL
  rw [seg_one xs (show a < xs.length by omega), List.drop_eq_getElem_cons h2, seg_split xs (show a + 1 ≤ a + 1 + d by omega) (show a + 1 + d ≤ a + 1 + d + 1 by omega), seg_one xs h2]
  have := swapL_mid (xs.take a ++ seg xs (a + 1) (a + 1 + d)) [] (xs.drop (a + 1 + d + 1)) (xs.getD a 0) xs[a + 1 + d] (a + 1 + d - 1) (a + 1 + d) (by
    rw [List.length_append, List.length_take, seg_length _ _ _ (by omega)]; omega) (by
    rw [List.length_append, List.length_take, seg_length _ _ _ (by omega)]; simp; omega)
  have e : xs.getD (a + 1 + d) 0 = xs[a + 1 + d] := by simp [List.getD_eq_getElem?_getD, List.getElem?_eq_getElem h2]
  rw [e]
  simp only [List.append_assoc, List.cons_append, List.nil_append] at this ⊢
  exact this
theorem rot_down (xs : List Int) {m i : Nat} (h1 : i + 1 ≤ m) (h2 : m < xs.length) : swapL (rotL xs (i + 1) m (m + 1)) i (i + 1) = rotL xs i m (m + 1) := by
  unfold rotL
  have hi : i < xs.length := by omega
  rw [seg_one xs h2, List.take_succ_eq_append_getElem hi, seg_split xs (show i ≤ i + 1 by omega) h1, seg_one xs hi]
  have e : xs.getD i 0 = xs[i] := by simp [List.getD_eq_getElem?_getD, List.getElem?_eq_getElem hi]
  rw [e]
  have := swapL_mid (xs.take i) [] (seg xs (i + 1) m ++ xs.drop (m + 1)) xs[i] (xs.getD m 0) i (i + 1) (by rw [List.length_take]; omega) (by rw [List.length_take]; simp; omega)
  simp only [List.append_assoc, List.cons_append, List.nil_append] at this ⊢
  exact this
end
end Go.Proofs.Ythkfahkkcjagdaa
end
section
namespace Go.Proofs.Ythkfahkkcjagdaa
open Go.RowKit Go.Proofs.YthkfahkkcjagdaaW.PrintWords Go.Proofs.YthkfahkkcjagdaaW.PrintMore Go.Proofs.YthkfahkkcjagdaaW.PrintLast

def MPost (L : Int → Int → Prop) (xs : List Int) (a b g : Nat) (w : World) (e : Ending) (w' : World) : Prop :=
  e = .returned (.tuple #[]) ∧ Kp (fun i => i = g) w w' ∧ ∃ ys, Fr xs ys a b ∧ (seg ys a b).Pairwise L ∧ Blk w' g (ints ys) 3
theorem dom_get {dom : Int → Prop} {xs : List Int} (h : ∀ x ∈ xs, dom x) {i : Nat} (hi : i < xs.length) : dom (xs.getD i 0) := by
  rw [List.getD_eq_getElem?_getD, List.getElem?_eq_getElem hi]
  exact h _ (List.getElem_mem hi)

set_option maxRecDepth 100000 in
set_option maxHeartbeats 8000000 in
theorem merge_left {kk bb g : Nat} {I : World → Prop} {cf : Int → Int → Int} {dom : Int → Prop} (hC : CmpC kk bb I cf dom g) {L : Int → Int → Prop} (xs : List Int) (w : World) (a m b n c : Nat) (hm : MergeOK cf L xs a m b) (h1 : m = a + 1) (hx : ∀ x ∈ xs, dom x) (hg : Blk w g (ints xs) 3) (hI : I w) (hn : xs.length ≤ n) (hn2 : n ≤ 1000000) :
    Calls Try.prog 135 #[.slice (some ⟨g, 0, none⟩) n c, .int .i64 a, .int .i64 m, .int .i64 b, .func (.func kk) #[] #[.pointer (some ⟨bb, 0, none⟩)]] w (MPost L xs a b g w) := by
  have hen := hC.en
  have HC := Aside0.mk hC; clear hC
  have HX := Aside0.mk hx; clear hx
  have HG := Aside0.mk hg; clear hg
  have HI := Aside0.mk hI; clear hI
  have hle := hm.le
  have hl2 := hm.l2
  have HM := Aside0.mk hm; clear hm
  have hb1 : ((m : Int) - a == 1) = true := by simp; omega
  have hma : (m : Int) ≤ a + 1 ∧ (a : Int) + 1 ≤ m := by omega
  have hma2 : m ≤ a + 1 ∧ a + 1 ≤ m := by omega
  have HMA := Aside0.mk h1; clear h1
  obtain ⟨x, hxx⟩ : ∃ z, z = xs.getD a 0 := ⟨_, rfl⟩
  have HXA := Aside0.mk hxx
  have hcx : w.cell? ⟨g, a, none⟩ = some (.int .i64 x) := by rw [hxx]; exact HG.out.at_ (ints_get _ (by omega))
  have HXD := Aside0.mk (show dom x by rw [hxx]; exact dom_get HX.out (by omega))
  have HCX := Aside0.mk hcx
  clear hxx hcx
  go_enter Try.func135, Try.ntmps135
  go_wp2_with fail
  go_loopw [10, 11] (fun v10 v11 wr => ∃ i j : Nat, v10 = .int .i64 i ∧ v11 = .int .i64 j ∧ m ≤ i ∧ i ≤ j ∧ j ≤ b ∧ Aside0 (m < i → L (xs.getD (i - 1) 0) x) ∧ Aside0 (j < b → L x (xs.getD j 0)) ∧ Aside0 (Below w.heap.size w wr)) (fun v10 v11 _ => (intOf v11).toNat - (intOf v10).toNat)
  case atStart => exact ⟨m, b, rfl, rfl, by omega, by omega, by omega, ⟨fun h => by omega⟩, ⟨fun h => by omega⟩, ⟨Below.refl _ _⟩⟩
  case round =>
    obtain ⟨i, j, rfl, rfl, hi, hij, hj, HLo, HHi, HB⟩ := hrel
    by_cases hlt : i < j
    · have hlti : (i : Int) < j := by omega
      go_upto_region 5 with fail
      obtain ⟨h, hh⟩ : ∃ h : Nat, ((i : Int) + j) / 2 = h := ⟨(i + j) / 2, by omega⟩
      have hih : i ≤ h := by omega
      have hhj : h < j := by omega
      rw [hh]
      clear hh
      obtain ⟨y, hyy⟩ : ∃ z, z = xs.getD h 0 := ⟨_, rfl⟩
      have HY := Aside0.mk hyy
      have hgr := HG.out.below HB.out
      have c1 : wr.cell? ⟨g, h, none⟩ = some (.int .i64 y) := by rw [hyy]; exact hgr.at_ (ints_get _ (by omega))
      have c2 : wr.cell? ⟨g, a, none⟩ = some (.int .i64 x) := by rw [HXA.out]; exact hgr.at_ (ints_get _ (by omega))
      have HYD := Aside0.mk (show dom y by rw [hyy]; exact dom_get HX.out (by omega))
      have hIr : I wr := HC.out.keep _ _ HI.out (Kp.of_below HB.out)
      have HIR := Aside0.mk hIr
      have HCL := Aside0.mk (fun W hW => HC.out.calls W y x hW HYD.out HXD.out)
      have hhn : (h : Int) < n := by omega
      have han : (a : Int) < n := by omega
      clear hyy hgr hIr
      go_cut [50] from 31 to 53 (fun v w3 => v = .bool (decide (cf y x < 0)) ∧ Aside0 (Below wr.heap.size wr w3))
      case first =>
        go_still_tail 9, (by kernel_rfl)
        change wpList _ _ _ _ _ wr.drew
        go_wp2_with ((with_reducible refine (HCL.out _ ?_).mono ?_); (first | exact HC.out.keep _ _ HIR.out ((Kp.refl _ _).drew) | exact HIR.out); rintro e5 w5 ⟨rfl, hb5⟩)
        go_meet
        case rel => exact ⟨rfl, ⟨below_step (below_drew (Below.refl _ _)) hb5⟩⟩
      case rest =>
      obtain ⟨rfl, hb4⟩ := hcut
      have HB2 := Aside0.mk (below_step HB.out hb4.out)
      clear c1 c2 HCL
      by_cases hlt0 : cf y x < 0
      · have hd : decide (cf y x < 0) = true := decide_eq_true hlt0
        have HL2 : Aside0 (m < h + 1 → L (xs.getD (h + 1 - 1) 0) x) := ⟨fun _ => by
          have := HM.out.yes (i := a) (j := h) (by omega) (by omega) (by rw [← HY.out, ← HXA.out]; exact hlt0)
          rw [HXA.out]; exact this⟩
        rw [hd]
        clear hd hlt0
        go_wp2_with fail
        go_roundw
        case rel => exact ⟨h + 1, j, by go_num, rfl, by omega, by omega, by omega, HL2, HHi, HB2⟩
        case measure => simp [intOf]; omega
      · have hd : decide (cf y x < 0) = false := decide_eq_false hlt0
        have HH2 : Aside0 (h < b → L x (xs.getD h 0)) := ⟨fun _ => by
          have := HM.out.no (i := a) (j := h) (by omega) (by omega) (by rw [← HY.out, ← HXA.out]; exact hlt0)
          rw [HXA.out]; exact this⟩
        rw [hd]
        clear hd hlt0
        go_wp2_with fail
        go_roundw
        case rel => exact ⟨i, h, rfl, rfl, by omega, by omega, by omega, HLo, HH2, HB2⟩
        case measure => simp [intOf]; omega
    · have hij2 : i = j := by omega
      have HCUT : Aside0 (Cut L xs a m b a i ∧ (i < b → L (xs.getD a 0) (xs.getD i 0))) := ⟨by
        refine ⟨Cut.of_edge HM.out (Nat.le_refl a) (by omega) hi (by omega) (fun h => by omega) (fun _ h => ?_), fun h => ?_⟩
        · have := HLo.out h; rwa [HXA.out] at this
        · have := HHi.out (by omega); rw [← HXA.out, hij2]; exact this⟩
      have hil : i ≤ xs.length := by omega
      have hB0 := HG.out.below HB.out
      have hr0 : rotL xs a m (a + 1) = xs := by rw [HMA.out]; exact rotL_right xs (by omega)
      have HK0 : Aside0 (Kp (fun i => i = g) w wr ∧ Blk wr g (ints (rotL xs a m (a + 1))) 3) := ⟨⟨Kp.of_below HB.out, by rw [hr0]; exact hB0⟩⟩
      clear hij2 hB0 hr0
      obtain ⟨wo, rfl⟩ : ∃ wo : World, wo = wr := ⟨_, rfl⟩
      go_wp2_with fail
      clear hlt hij HLo HHi
      go_loopw [13] (fun v13 wq => ∃ k : Nat, v13 = .int .i64 k ∧ a ≤ k ∧ k + 1 ≤ i ∧ Aside0 (Kp (fun i => i = g) w wq ∧ Blk wq g (ints (rotL xs a m (k + 1))) 3)) (fun v _ => i - (intOf v).toNat)
      case atStart => exact ⟨a, rfl, by omega, by omega, HK0⟩
      case round =>
        obtain ⟨k, rfl, hka, hki, HKB⟩ := hrel
        clear HK0
        by_cases hlt : k + 1 < i
        · have hlti : (k : Int) < i - 1 := by omega
          obtain ⟨ys, hys⟩ : ∃ z, z = rotL xs a m (k + 1) := ⟨_, rfl⟩
          have hyl : ys.length = xs.length := by rw [hys]; exact rotL_length xs (by omega) (by omega) (by omega)
          obtain ⟨hkk, hb2⟩ := HKB.out
          rw [← hys] at hb2
          obtain ⟨u, hu⟩ : ∃ z, z = ys.getD k 0 := ⟨_, rfl⟩
          obtain ⟨v, hv⟩ : ∃ z, z = ys.getD (k + 1) 0 := ⟨_, rfl⟩
          have c1 : wr.cell? ⟨g, k, none⟩ = some (.int .i64 u) := by rw [hu]; exact hb2.at_ (ints_get _ (by omega))
          have c2 : wr.cell? ⟨g, k + 1, none⟩ = some (.int .i64 v) := by rw [hv]; exact hb2.at_ (ints_get _ (by omega))
          have c2b : wr.cell? ⟨g, ((k : Int) + 1).toNat, none⟩ = some (.int .i64 v) := by rw [show ((k : Int) + 1).toNat = k + 1 by omega]; exact c2
          have fr := hb2.free
          have hnew := swap_blk hb2 k (k + 1) hu hv
          have hnew2 := swap_blk2 hb2 k (k + 1) (by omega) hu hv
          have e : swapL ys k (k + 1) = rotL xs a m (k + 1 + 1) := by
            rw [hys, HMA.out]
            have := rot_up xs (a := a) (j := k + 1) (by omega) (by omega)
            rwa [show k + 1 - 1 = k by omega] at this
          rw [e] at hnew hnew2
          have HN := Aside0.mk (And.intro hkk (And.intro hnew hnew2))
          have h1 : (k : Int) + 1 < n := by omega
          have h2 : (k : Int) < n := by omega
          clear hnew hnew2 e hu hv hyl hys HKB hb2 hkk
          go_upto_region 11 with fail
          go_region
          all_goals go_wp2_with fail
          all_goals go_roundw
          case rel => exact ⟨k + 1, by go_num, by omega, by omega, ⟨⟨((HN.out.1.setCell (fun _ => rfl) _).setCell (fun _ => rfl) _).drew, (by first | exact HN.out.2.1.drew | exact HN.out.2.2.drew)⟩⟩⟩
          case measure => simp [intOf]; omega
        · have hki2 : k + 1 = i := by omega
          have HF : Aside0 (Kp (fun i => i = g) w wr ∧ Blk wr g (ints (rotL xs a m i)) 3) := ⟨by have := HKB.out; rwa [hki2] at this⟩
          clear hki2
          go_wp2_with fail
          refine bodyPost_ret (results_none rfl _ _ _) rfl ?_
          obtain ⟨q1, q2⟩ := HCUT.out.1.one_left HM.out HMA.out HCUT.out.2
          exact ⟨rfl, HF.out.1, _, q1, q2, HF.out.2⟩
end Go.Proofs.Ythkfahkkcjagdaa
end
section
namespace Go.Proofs.Ythkfahkkcjagdaa
open Go.RowKit Go.Proofs.YthkfahkkcjagdaaW.PrintWords Go.Proofs.YthkfahkkcjagdaaW.PrintMore Go.Proofs.YthkfahkkcjagdaaW.PrintLast

set_option maxRecDepth 100000 in
set_option maxHeartbeats 8000000 in
theorem merge_right {kk bb g : Nat} {I : World → Prop} {cf : Int → Int → Int} {dom : Int → Prop} (hC : CmpC kk bb I cf dom g) {L : Int → Int → Prop} (xs : List Int) (w : World) (a m b n c : Nat) (hm : MergeOK cf L xs a m b) (h1 : b = m + 1) (h0 : m ≠ a + 1) (hx : ∀ x ∈ xs, dom x) (hg : Blk w g (ints xs) 3) (hI : I w) (hn : xs.length ≤ n) (hn2 : n ≤ 1000000) :
    Calls Try.prog 135 #[.slice (some ⟨g, 0, none⟩) n c, .int .i64 a, .int .i64 m, .int .i64 b, .func (.func kk) #[] #[.pointer (some ⟨bb, 0, none⟩)]] w (MPost L xs a b g w) := by
  have hen := hC.en
  have HC := Aside0.mk hC; clear hC
  have HX := Aside0.mk hx; clear hx
  have HG := Aside0.mk hg; clear hg
  have HI := Aside0.mk hI; clear hI
  have hle := hm.le
  have hl2 := hm.l2
  have hm' := hm
  have HM := Aside0.mk hm; clear hm
  have hl1 := hm'.l1
  have hb0 : ((m : Int) - a == 1) = false := by simp; omega
  have hb1 : ((b : Int) - m == 1) = true := by simp; omega
  have hma2 : b ≤ m + 1 ∧ m + 1 ≤ b := by omega
  have HMA := Aside0.mk h1; clear h1 h0
  obtain ⟨x, hxx⟩ : ∃ z, z = xs.getD m 0 := ⟨_, rfl⟩
  have HXA := Aside0.mk hxx
  have hcx : w.cell? ⟨g, m, none⟩ = some (.int .i64 x) := by rw [hxx]; exact HG.out.at_ (ints_get _ (by omega))
  have HXD := Aside0.mk (show dom x by rw [hxx]; exact dom_get HX.out (by omega))
  have HCX := Aside0.mk hcx
  clear hxx hcx hm'
  go_enter Try.func135, Try.ntmps135
  go_wp2_with fail
  go_loopw [14, 15] (fun v10 v11 wr => ∃ i j : Nat, v10 = .int .i64 i ∧ v11 = .int .i64 j ∧ a ≤ i ∧ i ≤ j ∧ j ≤ m ∧ Aside0 (a < i → L (xs.getD (i - 1) 0) x) ∧ Aside0 (j < m → L x (xs.getD j 0)) ∧ Aside0 (Below w.heap.size w wr)) (fun v10 v11 _ => (intOf v11).toNat - (intOf v10).toNat)
  case atStart => exact ⟨a, m, rfl, rfl, by omega, by omega, by omega, ⟨fun h => by omega⟩, ⟨fun h => by omega⟩, ⟨Below.refl _ _⟩⟩
  case round =>
    obtain ⟨i, j, rfl, rfl, hi, hij, hj, HLo, HHi, HB⟩ := hrel
    by_cases hlt : i < j
    · have hlti : (i : Int) < j := by omega
      go_upto_region 17 with fail
      obtain ⟨h, hh⟩ : ∃ h : Nat, ((i : Int) + j) / 2 = h := ⟨(i + j) / 2, by omega⟩
      have hih : i ≤ h := by omega
      have hhj : h < j := by omega
      rw [hh]
      clear hh
      obtain ⟨y, hyy⟩ : ∃ z, z = xs.getD h 0 := ⟨_, rfl⟩
      have HY := Aside0.mk hyy
      have hgr := HG.out.below HB.out
      have c1 : wr.cell? ⟨g, h, none⟩ = some (.int .i64 y) := by rw [hyy]; exact hgr.at_ (ints_get _ (by omega))
      have c2 : wr.cell? ⟨g, m, none⟩ = some (.int .i64 x) := by rw [HXA.out]; exact hgr.at_ (ints_get _ (by omega))
      have HYD := Aside0.mk (show dom y by rw [hyy]; exact dom_get HX.out (by omega))
      have hIr : I wr := HC.out.keep _ _ HI.out (Kp.of_below HB.out)
      have HIR := Aside0.mk hIr
      have HCL := Aside0.mk (fun W hW => HC.out.calls W x y hW HXD.out HYD.out)
      have hhn : (h : Int) < n := by omega
      have han : (m : Int) < n := by omega
      clear hyy hgr hIr
      go_cut [103] from 83 to 106 (fun v w3 => v = .bool (!decide (cf x y < 0)) ∧ Aside0 (Below wr.heap.size wr w3))
      case first =>
        go_still_tail 9, (by kernel_rfl)
        change wpList _ _ _ _ _ wr.drew
        go_wp2_with ((with_reducible refine (HCL.out _ ?_).mono ?_); (first | exact HC.out.keep _ _ HIR.out ((Kp.refl _ _).drew) | exact HIR.out); rintro e5 w5 ⟨rfl, hb5⟩)
        go_meet
        case rel => exact ⟨rfl, ⟨below_step (below_drew (Below.refl _ _)) hb5⟩⟩
      case rest =>
      obtain ⟨rfl, hb4⟩ := hcut
      have HB2 := Aside0.mk (below_step HB.out hb4.out)
      clear c1 c2 HCL
      by_cases hlt0 : ¬ cf x y < 0
      · have hd : (!decide (cf x y < 0)) = true := by simpa using hlt0
        have HL2 : Aside0 (a < h + 1 → L (xs.getD (h + 1 - 1) 0) x) := ⟨fun _ => by
          have := HM.out.no (i := h) (j := m) (by omega) (by omega) (by rw [← HY.out, ← HXA.out]; exact hlt0)
          rw [HXA.out]; exact this⟩
        rw [hd]
        clear hd hlt0
        go_wp2_with fail
        go_roundw
        case rel => exact ⟨h + 1, j, by go_num, rfl, by omega, by omega, by omega, HL2, HHi, HB2⟩
        case measure => simp [intOf]; omega
      · have hd : (!decide (cf x y < 0)) = false := by simpa using hlt0
        have HH2 : Aside0 (h < m → L x (xs.getD h 0)) := ⟨fun _ => by
          have := HM.out.yes (i := h) (j := m) (by omega) (by omega) (by rw [← HY.out, ← HXA.out]; omega)
          rw [HXA.out]; exact this⟩
        rw [hd]
        clear hd hlt0
        go_wp2_with fail
        go_roundw
        case rel => exact ⟨i, h, rfl, rfl, by omega, by omega, by omega, HLo, HH2, HB2⟩
        case measure => simp [intOf]; omega
    · have hij2 : i = j := by omega
      have HCUT : Aside0 (Cut L xs a m b i b ∧ (a < i → L (xs.getD (i - 1) 0) (xs.getD m 0))) := ⟨by
        refine ⟨Cut.of_edge HM.out hi (by omega) (by omega) (Nat.le_refl b) (fun _ h => by omega) (fun h _ => ?_), fun h => ?_⟩
        · have := HHi.out (by omega); rw [hij2, show b - 1 = m by omega, ← HXA.out]; exact this
        · have := HLo.out h; rwa [HXA.out] at this⟩
      have him : i ≤ m := by omega
      have hB0 := HG.out.below HB.out
      have hr0 : rotL xs m m (m + 1) = xs := rotL_left xs (by omega)
      have HK0 : Aside0 (Kp (fun i => i = g) w wr ∧ Blk wr g (ints (rotL xs m m (m + 1))) 3) := ⟨⟨Kp.of_below HB.out, by rw [hr0]; exact hB0⟩⟩
      clear hij2 hB0 hr0
      obtain ⟨wo, rfl⟩ : ∃ wo : World, wo = wr := ⟨_, rfl⟩
      go_wp2_with fail
      clear hlt hij HLo HHi
      go_loopw [17] (fun v13 wq => ∃ k : Nat, v13 = .int .i64 k ∧ i ≤ k ∧ k ≤ m ∧ Aside0 (Kp (fun i => i = g) w wq ∧ Blk wq g (ints (rotL xs k m (m + 1))) 3)) (fun v _ => (intOf v).toNat)
      case atStart => exact ⟨m, rfl, by omega, by omega, HK0⟩
      case round =>
        obtain ⟨k, rfl, hka, hki, HKB⟩ := hrel
        clear HK0
        by_cases hlt : i < k
        · have hlti : (i : Int) < k := by omega
          obtain ⟨ys, hys⟩ : ∃ z, z = rotL xs k m (m + 1) := ⟨_, rfl⟩
          have hyl : ys.length = xs.length := by rw [hys]; exact rotL_length xs (by omega) (by omega) (by omega)
          obtain ⟨hkk, hb2⟩ := HKB.out
          rw [← hys] at hb2
          obtain ⟨u, hu⟩ : ∃ z, z = ys.getD (k - 1) 0 := ⟨_, rfl⟩
          obtain ⟨v, hv⟩ : ∃ z, z = ys.getD k 0 := ⟨_, rfl⟩
          have c1 : wr.cell? ⟨g, k - 1, none⟩ = some (.int .i64 u) := by rw [hu]; exact hb2.at_ (ints_get _ (by omega))
          have c2 : wr.cell? ⟨g, k, none⟩ = some (.int .i64 v) := by rw [hv]; exact hb2.at_ (ints_get _ (by omega))
          have c1b : wr.cell? ⟨g, ((k : Int) - 1).toNat, none⟩ = some (.int .i64 u) := by rw [show ((k : Int) - 1).toNat = k - 1 by omega]; exact c1
          have fr := hb2.free
          have hnew := swap_blk hb2 (k - 1) k hu hv
          have hnew2 := swap_blk2 hb2 (k - 1) k (by omega) hu hv
          have e : swapL ys (k - 1) k = rotL xs (k - 1) m (m + 1) := by
            rw [hys]
            have := rot_down xs (m := m) (i := k - 1) (by omega) (by omega)
            rwa [show k - 1 + 1 = k by omega] at this
          rw [e] at hnew hnew2
          have HN := Aside0.mk (And.intro hkk (And.intro hnew hnew2))
          have h1 : (1 : Int) ≤ k := by omega
          have h2 : (k : Int) < n := by omega
          have h3 : (k : Int) - 1 < n := by omega
          have HKI : Aside0 (((k - 1 : Nat) : Int) = (k : Int) - 1) := ⟨by omega⟩
          clear hnew hnew2 e hu hv hyl hys HKB hb2 hkk
          go_upto_region 23 with fail
          go_region
          all_goals go_wp2_with fail
          all_goals go_roundw
          case rel => exact ⟨k - 1, by rw [HKI.out], by omega, by omega, ⟨⟨((HN.out.1.setCell (fun _ => rfl) _).setCell (fun _ => rfl) _).drew, (by first | exact HN.out.2.1.drew | exact HN.out.2.2.drew)⟩⟩⟩
          case measure => simp [intOf]; omega
        · have hki2 : k = i := by omega
          have HF : Aside0 (Kp (fun i => i = g) w wr ∧ Blk wr g (ints (rotL xs i m b)) 3) := ⟨by have := HKB.out; rwa [hki2, ← HMA.out] at this⟩
          clear hki2
          go_wp2_with fail
          refine bodyPost_ret (results_none rfl _ _ _) rfl ?_
          obtain ⟨q1, q2⟩ := HCUT.out.1.one_right HM.out HMA.out HCUT.out.2
          exact ⟨rfl, HF.out.1, _, q1, q2, HF.out.2⟩
end Go.Proofs.Ythkfahkkcjagdaa
end
section
namespace Go.Proofs.Ythkfahkkcjagdaa
open Go.RowKit Go.Proofs.YthkfahkkcjagdaaW.PrintWords Go.Proofs.YthkfahkkcjagdaaW.PrintMore Go.Proofs.YthkfahkkcjagdaaW.PrintLast

theorem perm_dom {dom : Int → Prop} {xs ys : List Int} {a b : Nat} (hab : a ≤ b) (h : Fr xs ys a b) (hx : ∀ x ∈ xs, dom x) : ∀ x ∈ ys, dom x := by
  intro x hy
  rw [seg_whole ys hab, h.lo, h.hi] at hy
  refine hx x ?_
  rw [seg_whole xs hab]
  rcases List.mem_append.1 hy with h1 | h1
  · exact List.mem_append_left _ h1
  · rcases List.mem_append.1 h1 with h2 | h2
    · exact List.mem_append_right _ (List.mem_append_left _ (h.perm.mem_iff.1 h2))
    · exact List.mem_append_right _ (List.mem_append_right _ h2)
def MIH (kk bb g : Nat) (I : World → Prop) (cf : Int → Int → Int) (dom : Int → Prop) (L : Int → Int → Prop) (n c N : Nat) : Prop :=
  ∀ (xs : List Int) (w : World) (a m b : Nat), b - a ≤ N → MergeOK cf L xs a m b → (∀ x ∈ xs, dom x) → Blk w g (ints xs) 3 → I w → xs.length ≤ n →
    Calls Try.prog 135 #[.slice (some ⟨g, 0, none⟩) n c, .int .i64 a, .int .i64 m, .int .i64 b, .func (.func kk) #[] #[.pointer (some ⟨bb, 0, none⟩)]] w (MPost L xs a b g w)

set_option maxRecDepth 100000 in
set_option maxHeartbeats 8000000 in
theorem merge_mid {kk bb g : Nat} {I : World → Prop} {cf : Int → Int → Int} {dom : Int → Prop} (hC : CmpC kk bb I cf dom g) {L : Int → Int → Prop} (N n c : Nat) (hN : MIH kk bb g I cf dom L n c N) (xs : List Int) (w : World) (a m b : Nat) (hNb : b - a ≤ N + 1) (hm : MergeOK cf L xs a m b) (h0 : m ≠ a + 1) (h1 : b ≠ m + 1) (hx : ∀ x ∈ xs, dom x) (hg : Blk w g (ints xs) 3) (hI : I w) (hn : xs.length ≤ n) (hn2 : n ≤ 1000000) :
    Calls Try.prog 135 #[.slice (some ⟨g, 0, none⟩) n c, .int .i64 a, .int .i64 m, .int .i64 b, .func (.func kk) #[] #[.pointer (some ⟨bb, 0, none⟩)]] w (MPost L xs a b g w) := by
  have hen := hC.en
  have HC := Aside0.mk hC; clear hC
  have HN := Aside0.mk hN; clear hN
  have HX := Aside0.mk hx; clear hx
  have HG := Aside0.mk hg; clear hg
  have HI := Aside0.mk hI; clear hI
  have hle := hm.le
  have hl2 := hm.l2
  have hl1 := hm.l1
  have HM := Aside0.mk hm; clear hm
  have hb0 : ((m : Int) - a == 1) = false := by simp; omega
  have hb1 : ((b : Int) - m == 1) = false := by simp; omega
  clear h0 h1
  go_enter Try.func135, Try.ntmps135
  go_upto_if 140 with fail
  obtain ⟨mid, hmid⟩ : ∃ mid : Nat, ((a : Int) + b) / 2 = mid := ⟨(a + b) / 2, by omega⟩
  have hm1 : a + b ≤ 2 * mid + 1 := by omega
  have hm2 : 2 * mid ≤ a + b := by omega
  rw [hmid]
  clear hmid
  go_cut [20, 21] from 138 to 146 (fun v20 v21 w2 => ∃ s0 r0 : Nat, v20 = .int .i64 s0 ∧ v21 = .int .i64 r0 ∧ a ≤ s0 ∧ s0 ≤ r0 ∧ r0 ≤ m ∧ r0 ≤ mid ∧ mid + m ≤ b + s0 ∧ Aside0 (s0 = a ∨ mid + m = b + s0) ∧ Aside0 (r0 = m ∨ r0 = mid) ∧ Aside0 (Below w.heap.size w w2))
  case first =>
    by_cases hgt : mid < m
    · have d : decide ((mid : Int) < m) = true := decide_eq_true (by omega)
      have e1 : Aside0 (((mid + m - b : Nat) : Int) = (mid : Int) + m - b) := ⟨by omega⟩
      go_wp2_with fail
      go_meet
      case rel => exact ⟨mid + m - b, mid, by rw [e1.out], rfl, by omega, by omega, by omega, by omega, by omega, ⟨.inr (by omega)⟩, ⟨.inr rfl⟩, ⟨Below.refl _ _⟩⟩
    · have d : decide ((mid : Int) < m) = false := decide_eq_false (by omega)
      go_wp2_with fail
      go_meet
      case rel => exact ⟨a, m, rfl, rfl, by omega, by omega, by omega, by omega, by omega, ⟨.inl rfl⟩, ⟨.inl rfl⟩, ⟨Below.refl _ _⟩⟩
  case rest =>
  obtain ⟨s0, r0, rfl, rfl, hs1, hs2, hs3, hs4, hs5, HS, HRr, HB0⟩ := hcut
  obtain ⟨p, hp⟩ : ∃ p : Nat, (mid : Int) + m - 1 = p := ⟨mid + m - 1, by omega⟩
  have hp1 : p + 1 ≤ mid + m := by omega
  have hp2 : mid + m ≤ p + 1 := by omega
  go_upto_region 32 with fail
  go_cut [22] from 147 to 148 (fun v w2 => v = .int .i64 p ∧ Aside0 (Below w.heap.size w w2))
  case first =>
    go_wp2_with fail
    go_meet
    case rel => exact ⟨rfl, HB0⟩
  case rest =>
  obtain ⟨rfl, HB1⟩ := hcut
  clear HB0 hp
  go_wp2_with fail
  go_loopw [20, 21] (fun v10 v11 wr => ∃ i j : Nat, v10 = .int .i64 i ∧ v11 = .int .i64 j ∧ s0 ≤ i ∧ i ≤ j ∧ j ≤ r0 ∧ Aside0 (s0 < i → L (xs.getD (i - 1) 0) (xs.getD (mid + m - i) 0)) ∧ Aside0 (j < r0 → L (xs.getD (mid + m - 1 - j) 0) (xs.getD j 0)) ∧ Aside0 (Below w.heap.size w wr)) (fun v10 v11 _ => (intOf v11).toNat - (intOf v10).toNat)
  case atStart => exact ⟨s0, r0, rfl, rfl, by omega, by omega, by omega, ⟨fun h => by omega⟩, ⟨fun h => by omega⟩, HB1⟩
  case round =>
    obtain ⟨i, j, rfl, rfl, hi, hij, hj, HLo, HHi, HB⟩ := hrel
    clear HB1
    by_cases hlt : i < j
    · have hlti : (i : Int) < j := by omega
      go_upto_region 35 with fail
      obtain ⟨h, hh⟩ : ∃ h : Nat, ((i : Int) + j) / 2 = h := ⟨(i + j) / 2, by omega⟩
      have hih : i ≤ h := by omega
      have hhj : h < j := by omega
      rw [hh]
      clear hh
      obtain ⟨q, hq⟩ : ∃ q : Nat, (p : Int) - h = q := ⟨p - h, by omega⟩
      have hq1 : q + h ≤ p := by omega
      have hq2 : p ≤ q + h := by omega
      have HQ := Aside0.mk hq; clear hq
      obtain ⟨x, hxx⟩ : ∃ z, z = xs.getD h 0 := ⟨_, rfl⟩
      obtain ⟨y, hyy⟩ : ∃ z, z = xs.getD q 0 := ⟨_, rfl⟩
      have HXA := Aside0.mk hxx
      have HY := Aside0.mk hyy
      have hgr := HG.out.below HB.out
      have c1 : wr.cell? ⟨g, q, none⟩ = some (.int .i64 y) := by rw [hyy]; exact hgr.at_ (ints_get _ (by omega))
      have c1b : wr.cell? ⟨g, ((p : Int) - h).toNat, none⟩ = some (.int .i64 y) := by rw [HQ.out, Int.toNat_natCast]; exact c1
      have c1c : wr.cell? ⟨g, p - h, none⟩ = some (.int .i64 y) := by rw [show p - h = q by omega]; exact c1
      have c2 : wr.cell? ⟨g, h, none⟩ = some (.int .i64 x) := by rw [hxx]; exact hgr.at_ (ints_get _ (by omega))
      have HYD := Aside0.mk (show dom y by rw [hyy]; exact dom_get HX.out (by omega))
      have HXD := Aside0.mk (show dom x by rw [hxx]; exact dom_get HX.out (by omega))
      have hIr : I wr := HC.out.keep _ _ HI.out (Kp.of_below HB.out)
      have HIR := Aside0.mk hIr
      have HCL := Aside0.mk (fun W hW => HC.out.calls W y x hW HYD.out HXD.out)
      have hhn : (h : Int) < n := by omega
      have hqn : (p : Int) - h < n := by omega
      have hq0 : 0 ≤ (p : Int) - h := by omega
      have hqh : h ≤ p := by omega
      clear hxx hyy hgr hIr
      go_cut [171] from 149 to 174 (fun v w3 => v = .bool (!decide (cf y x < 0)) ∧ Aside0 (Below wr.heap.size wr w3))
      case first =>
        have j4 : IntKind.i64.wrap ((p : Int) - h) = (p : Int) - h := IntWalk.i64_in _ (by omega)
        go_still_tail 11, (by kernel_rfl)
        clear j4
        change wpList _ _ _ _ _ wr.drew
        go_wp2_with ((with_reducible refine (HCL.out _ ?_).mono ?_); (first | exact HC.out.keep _ _ HIR.out ((Kp.refl _ _).drew) | exact HIR.out); rintro e5 w5 ⟨rfl, hb5⟩)
        go_meet
        case rel => exact ⟨rfl, ⟨below_step (below_drew (Below.refl _ _)) hb5⟩⟩
      case rest =>
      obtain ⟨rfl, hb4⟩ := hcut
      have HB2 := Aside0.mk (below_step HB.out hb4.out)
      clear c1 c1b c1c c2 HCL
      by_cases hlt0 : ¬ cf y x < 0
      · have hd : (!decide (cf y x < 0)) = true := by simpa using hlt0
        have HL2 : Aside0 (s0 < h + 1 → L (xs.getD (h + 1 - 1) 0) (xs.getD (mid + m - (h + 1)) 0)) := ⟨fun _ => by
          have := HM.out.no (i := h) (j := q) (by omega) (by omega) (by rw [← HY.out, ← HXA.out]; exact hlt0)
          rw [show mid + m - (h + 1) = q by omega]; exact this⟩
        rw [hd]
        clear hd hlt0
        go_wp2_with fail
        go_roundw
        case rel => exact ⟨h + 1, j, by go_num, rfl, by omega, by omega, by omega, HL2, HHi, HB2⟩
        case measure => simp [intOf]; omega
      · have hd : (!decide (cf y x < 0)) = false := by simpa using hlt0
        have HH2 : Aside0 (h < r0 → L (xs.getD (mid + m - 1 - h) 0) (xs.getD h 0)) := ⟨fun _ => by
          have := HM.out.yes (i := h) (j := q) (by omega) (by omega) (by rw [← HY.out, ← HXA.out]; omega)
          rw [show mid + m - 1 - h = q by omega]; exact this⟩
        rw [hd]
        clear hd hlt0
        go_wp2_with fail
        go_roundw
        case rel => exact ⟨i, h, rfl, rfl, by omega, by omega, by omega, HLo, HH2, HB2⟩
        case measure => simp [intOf]; omega
    · have hij2 : i = j := by omega
      obtain ⟨e, he⟩ : ∃ e : Nat, (mid : Int) + m - i = e := ⟨mid + m - i, by omega⟩
      have HCUT : Aside0 (Cut L xs a m b i e) := ⟨by
        refine Cut.of_edge HM.out (by omega) (by omega) (by omega) (by omega) (fun h1 h2 => ?_) (fun h1 h2 => ?_)
        · have hs : s0 < i := by
            rcases HS.out with h | h <;> omega
          have := HLo.out hs
          rwa [show mid + m - i = e by omega] at this
        · have hs : j < r0 := by
            rcases HRr.out with h | h <;> omega
          have := HHi.out hs
          rw [show mid + m - 1 - j = e - 1 by omega] at this
          rw [hij2]; exact this⟩
      have HME : Aside0 (mid = i + (e - m)) := ⟨by omega⟩
      have hei : e + i ≤ mid + m := by omega
      have hei2 : mid + m ≤ e + i := by omega
      have hIw : I wr := HC.out.keep _ _ HI.out (Kp.of_below HB.out)
      have HW := Aside0.mk (And.intro hIw (HG.out.below HB.out))
      have HE := Aside0.mk he
      clear hij2 HLo HHi HS HRr hIw he
      obtain ⟨wo, rfl⟩ : ∃ wo : World, wo = wr := ⟨_, rfl⟩
      go_upto_region 39 with fail
      rw [HE.out]
      clear hlt hij hj
      go_cut [185] from 178 to 185 (fun v w2 => v = .bool (decide (i < m ∧ m < e)) ∧ Aside0 (Below wo.heap.size wo w2))
      case first =>
        by_cases q1 : i < m
        · have d1 : decide ((i : Int) < m) = true := decide_eq_true (by omega)
          by_cases q2 : m < e
          · have d2 : decide ((m : Int) < e) = true := decide_eq_true (by omega)
            go_wp2_with fail
            go_meet
            case rel => exact ⟨by rw [decide_eq_true (show i < m ∧ m < e from ⟨q1, q2⟩)], ⟨Below.refl _ _⟩⟩
          · have d2 : decide ((m : Int) < e) = false := decide_eq_false (by omega)
            go_wp2_with fail
            go_meet
            case rel => exact ⟨by rw [decide_eq_false (show ¬ (i < m ∧ m < e) from fun h => q2 h.2)], ⟨Below.refl _ _⟩⟩
        · have d1 : decide ((i : Int) < m) = false := decide_eq_false (by omega)
          go_wp2_with fail
          go_meet
          case rel => exact ⟨by rw [decide_eq_false (show ¬ (i < m ∧ m < e) from fun h => q1 h.1)], ⟨Below.refl _ _⟩⟩
      case rest =>
      obtain ⟨rfl, HB2⟩ := hcut
      obtain ⟨w2, hw2⟩ : ∃ z, z = wc := ⟨_, rfl⟩
      subst hw2
      go_upto_if 185 with fail
      go_cut [24] from 185 to 191 (fun v w3 => v = .int .i64 e ∧ Aside0 (Kp (fun i => i = g) w w3 ∧ Blk w3 g (ints (rotL xs i m e)) 3))
      case first =>
        by_cases hr : i < m ∧ m < e
        · have hrot := rotate_any g xs w2 (HW.out.2.below HB2.out) i m e n c (.func (.func kk) #[] #[.pointer (some ⟨bb, 0, none⟩)]) hr.1 hr.2 (by omega) hn hn2
          have HROT := Aside0.mk hrot
          rw [decide_eq_true hr]
          clear hrot hr
          go_wp2_with ((with_reducible refine HROT.out.mono ?_); rintro e5 w5 ⟨rfl, hk5, hb5⟩; have H5 := Aside0.mk (And.intro hk5 hb5); clear hk5 hb5)
          go_meet
          case rel => exact ⟨rfl, ⟨⟨(Kp.of_below (below_step HB.out HB2.out)).step H5.out.1, H5.out.2⟩⟩⟩
        · have hrr : rotL xs i m e = xs := by
            have q1 := HCUT.out.sm
            have q2 := HCUT.out.em
            rcases (show i = m ∨ m = e by omega) with h | h
            · rw [h]; exact rotL_left xs (by omega)
            · rw [← h]; exact rotL_right xs (by omega)
          have HRR : Aside0 (Kp (fun i => i = g) w w2 ∧ Blk w2 g (ints (rotL xs i m e)) 3) := ⟨⟨Kp.of_below (below_step HB.out HB2.out), by rw [hrr]; exact HW.out.2.below HB2.out⟩⟩
          rw [decide_eq_false hr]
          clear hrr hr
          go_wp2_with fail
          go_meet
          case rel => exact ⟨rfl, HRR⟩
      case rest =>
      obtain ⟨rfl, HR3⟩ := hcut
      obtain ⟨w3, hw3⟩ : ∃ z, z = wc := ⟨_, rfl⟩
      subst hw3
      have hFr : Fr xs (rotL xs i m e) i e := rotL_Fr xs HCUT.out.sm HCUT.out.em (by omega)
      have HFR := Aside0.mk (hFr.mono HCUT.out.sa (Nat.le_trans HCUT.out.sm HCUT.out.em) HCUT.out.eb)
      have HRL : Aside0 ((rotL xs i m e).length ≤ n) := ⟨by rw [hFr.len]; exact hn⟩
      clear hFr
      go_upto_region 41 with fail
      go_cut [199] from 192 to 199 (fun v w2 => v = .bool (decide (a < i ∧ i < mid)) ∧ Aside0 (Below w3.heap.size w3 w2))
      case first =>
        by_cases q1 : a < i
        · have d1 : decide ((a : Int) < i) = true := decide_eq_true (by omega)
          by_cases q2 : i < mid
          · have d2 : decide ((i : Int) < mid) = true := decide_eq_true (by omega)
            go_wp2_with fail
            go_meet
            case rel => exact ⟨by rw [decide_eq_true (show a < i ∧ i < mid from ⟨q1, q2⟩)], ⟨Below.refl _ _⟩⟩
          · have d2 : decide ((i : Int) < mid) = false := decide_eq_false (by omega)
            go_wp2_with fail
            go_meet
            case rel => exact ⟨by rw [decide_eq_false (show ¬ (a < i ∧ i < mid) from fun h => q2 h.2)], ⟨Below.refl _ _⟩⟩
        · have d1 : decide ((a : Int) < i) = false := decide_eq_false (by omega)
          go_wp2_with fail
          go_meet
          case rel => exact ⟨by rw [decide_eq_false (show ¬ (a < i ∧ i < mid) from fun h => q1 h.1)], ⟨Below.refl _ _⟩⟩
      case rest =>
      obtain ⟨rfl, HB4⟩ := hcut
      obtain ⟨w4, hw4⟩ : ∃ z, z = wc := ⟨_, rfl⟩
      subst hw4
      have hk4 : Kp (fun i => i = g) w w4 := HR3.out.1.then_below HB4.out
      have hI4 : I w4 := HC.out.keep _ _ HI.out hk4
      have HW4 := Aside0.mk (And.intro hk4 (And.intro hI4 (HR3.out.2.below HB4.out)))
      clear hk4 hI4
      go_upto_if 199 with fail
      go_cut [24] from 199 to 205 (fun v w3 => v = .int .i64 e ∧ Aside0 (Kp (fun i => i = g) w w3 ∧ ∃ ys, Fr (rotL xs i m e) ys a mid ∧ (seg ys a mid).Pairwise L ∧ Blk w3 g (ints ys) 3))
      case first =>
        by_cases hr : a < i ∧ i < mid
        · have hmo := HCUT.out.left HM.out hr.1 (by omega)
          rw [← HME.out] at hmo
          have hrec := HN.out (rotL xs i m e) w4 a i mid (by omega) hmo (perm_dom (by omega) HFR.out HX.out) HW4.out.2.2 HW4.out.2.1 HRL.out
          have HREC := Aside0.mk hrec
          rw [decide_eq_true hr]
          clear hmo hrec hr
          go_wp2_with ((with_reducible refine HREC.out.mono ?_); rintro e5 w5 ⟨rfl, hk5, hb5⟩; have H5 := Aside0.mk (And.intro hk5 hb5); clear hk5 hb5)
          go_meet
          case rel => exact ⟨rfl, ⟨⟨HW4.out.1.step H5.out.1, H5.out.2⟩⟩⟩
        · have hp0 := HCUT.out.left0 HM.out (by omega)
          rw [← HME.out] at hp0
          have HP0 := Aside0.mk hp0
          rw [decide_eq_false hr]
          clear hp0 hr
          go_wp2_with fail
          go_meet
          case rel => exact ⟨rfl, ⟨⟨HW4.out.1, _, Fr.refl _ _ _, HP0.out, HW4.out.2.2⟩⟩⟩
      case rest =>
      obtain ⟨rfl, ⟨hk5, ys, hfy, hpy, hby⟩⟩ := hcut
      obtain ⟨w5, hw5⟩ : ∃ z, z = wc := ⟨_, rfl⟩
      subst hw5
      have HY5 := Aside0.mk (And.intro hk5 (And.intro hfy (And.intro hpy hby)))
      clear hk5 hfy hpy hby
      go_upto_region 43 with fail
      go_cut [213] from 206 to 213 (fun v w2 => v = .bool (decide (mid < e ∧ e < b)) ∧ Aside0 (Below w5.heap.size w5 w2))
      case first =>
        by_cases q1 : mid < e
        · have d1 : decide ((mid : Int) < e) = true := decide_eq_true (by omega)
          by_cases q2 : e < b
          · have d2 : decide ((e : Int) < b) = true := decide_eq_true (by omega)
            go_wp2_with fail
            go_meet
            case rel => exact ⟨by rw [decide_eq_true (show mid < e ∧ e < b from ⟨q1, q2⟩)], ⟨Below.refl _ _⟩⟩
          · have d2 : decide ((e : Int) < b) = false := decide_eq_false (by omega)
            go_wp2_with fail
            go_meet
            case rel => exact ⟨by rw [decide_eq_false (show ¬ (mid < e ∧ e < b) from fun h => q2 h.2)], ⟨Below.refl _ _⟩⟩
        · have d1 : decide ((mid : Int) < e) = false := decide_eq_false (by omega)
          go_wp2_with fail
          go_meet
          case rel => exact ⟨by rw [decide_eq_false (show ¬ (mid < e ∧ e < b) from fun h => q1 h.1)], ⟨Below.refl _ _⟩⟩
      case rest =>
      obtain ⟨rfl, HB6⟩ := hcut
      obtain ⟨w6, hw6⟩ : ∃ z, z = wc := ⟨_, rfl⟩
      subst hw6
      have hk6 : Kp (fun i => i = g) w w6 := HY5.out.1.then_below HB6.out
      have hI6 : I w6 := HC.out.keep _ _ HI.out hk6
      have HW6 := Aside0.mk (And.intro hk6 (And.intro hI6 (HY5.out.2.2.2.below HB6.out)))
      clear hk6 hI6
      have hfy : Fr (rotL xs i m e) ys a (i + (e - m)) := by rw [← HME.out]; exact HY5.out.2.1
      have hpy : (seg ys a (i + (e - m))).Pairwise L := by rw [← HME.out]; exact HY5.out.2.2.1
      have HFY := Aside0.mk (And.intro hfy hpy)
      clear hfy hpy
      by_cases hr : mid < e ∧ e < b
      · have hmo := HCUT.out.right HM.out HFY.out.1 (by omega) hr.2
        rw [← HME.out] at hmo
        have hfull : Fr xs ys a b := HFR.out.trans (HY5.out.2.1.mono (Nat.le_refl a) (by omega) (by omega))
        have hrec := HN.out ys w6 mid e b (by omega) hmo (perm_dom (by omega) hfull HX.out) HW6.out.2.2 HW6.out.2.1 (by rw [hfull.len]; exact hn)
        have HREC := Aside0.mk hrec
        rw [decide_eq_true hr]
        clear hmo hrec hr hfull
        go_wp2_with ((with_reducible refine HREC.out.mono ?_); rintro e5 w7 ⟨rfl, hk7, zs, hf7, hp7, hb7⟩; have H7 := Aside0.mk (And.intro hk7 (And.intro hf7 (And.intro hp7 hb7))); clear hk7 hf7 hp7 hb7)
        go_end0
        have hf7 : Fr ys zs (i + (e - m)) b := by rw [← HME.out]; exact H7.out.2.1
        have hp7 : (seg zs (i + (e - m)) b).Pairwise L := by rw [← HME.out]; exact H7.out.2.2.1
        obtain ⟨r1, r2⟩ := HCUT.out.done HM.out HFY.out.1 HFY.out.2 hf7 hp7
        exact ⟨rfl, HW6.out.1.step H7.out.1, zs, r1, r2, H7.out.2.2.2⟩
      · have hp0 := HCUT.out.right0 HM.out HFY.out.1 (by omega)
        have HP0 := Aside0.mk hp0
        rw [decide_eq_false hr]
        clear hp0 hr
        go_wp2_with fail
        go_end0
        obtain ⟨r1, r2⟩ := HCUT.out.done HM.out HFY.out.1 HFY.out.2 (Fr.refl _ _ _) HP0.out
        exact ⟨rfl, HW6.out.1, ys, r1, r2, HW6.out.2.2⟩
theorem merge_any {kk bb g : Nat} {I : World → Prop} {cf : Int → Int → Int} {dom : Int → Prop} (hC : CmpC kk bb I cf dom g) {L : Int → Int → Prop} (n c : Nat) (hn2 : n ≤ 1000000) : ∀ N, MIH kk bb g I cf dom L n c N := by
  intro N
  induction N with
  | zero => intro xs w a m b h hm; have := hm.l1; have := hm.l2; omega
  | succ N ih =>
    intro xs w a m b h hm hx hg hI hn
    by_cases h0 : m = a + 1
    · exact merge_left hC xs w a m b n c hm h0 hx hg hI hn hn2
    · by_cases h1 : b = m + 1
      · exact merge_right hC xs w a m b n c hm h1 h0 hx hg hI hn hn2
      · exact merge_mid hC N n c ih xs w a m b h hm h0 h1 hx hg hI hn hn2
end Go.Proofs.Ythkfahkkcjagdaa
end
section
namespace Go.Proofs.Ythkfahkkcjagdaa
open Go.RowKit Go.Proofs.YthkfahkkcjagdaaW.PrintWords Go.Proofs.YthkfahkkcjagdaaW.PrintMore Go.Proofs.YthkfahkkcjagdaaW.PrintLast

/-- A comparison that is consistent. -/
structure CmpLaw (cf : Int → Int → Int) : Prop where
  anti : ∀ x y, cf y x < 0 ↔ 0 < cf x y
  trans : ∀ x y z, cf x y ≤ 0 → cf y z ≤ 0 → cf x z ≤ 0
/-- x stands ahead of y in the stable order. -/
def ahd (cf : Int → Int → Int) (x y : Int) : Prop := cf x y < 0 ∨ (cf x y = 0 ∧ x < y)
section
variable {cf : Int → Int → Int}
theorem CmpLaw.tr (h : CmpLaw cf) {x y z : Int} (h1 : ahd cf x y) (h2 : ahd cf y z) : ahd cf x z := by
  unfold ahd at *
  have a := h.trans x y z (by omega) (by omega)
  have b := h.anti x y
  have c := h.anti y z
  have d := h.anti x z
  have e := h.anti y x
  have f := h.anti z y
  have k := h.anti z x
  have t1 := h.trans z x y
  have t2 := h.trans y z x
  omega
theorem CmpLaw.asym (h : CmpLaw cf) {x y : Int} (h1 : ahd cf x y) (h2 : ahd cf y x) : x = y := by
  unfold ahd at *
  have a := h.anti x y
  have b := h.anti y x
  omega
theorem CmpLaw.cross (h : CmpLaw cf) {x y : Int} (hlt : x < y) : (cf y x < 0 ↔ ahd cf y x) ∧ (ahd cf y x ∨ ahd cf x y) := by
  unfold ahd
  have a := h.anti x y
  have b := h.anti y x
  omega
theorem insR_ahd (h : CmpLaw cf) (x : Int) : ∀ l : List Int, l.Pairwise (fun b a => ahd cf a b) → (∀ y ∈ l, y < x) → (insR cf x l).Pairwise (fun b a => ahd cf a b) := by
  intro l
  induction l with
  | nil => intro _ _; unfold insR; exact List.pairwise_singleton _ _
  | cons y l ih =>
    intro hp hx
    obtain ⟨h1, h2⟩ := List.pairwise_cons.1 hp
    have hy := hx y List.mem_cons_self
    unfold insR
    split
    · rename_i hc
      refine List.pairwise_cons.2 ⟨fun a ha => ?_, ih h2 (fun z hz => hx z (List.mem_cons_of_mem _ hz))⟩
      rcases (insR_mem _ _ _ _).1 ha with rfl | ha
      · exact .inl hc
      · exact h1 a ha
    · rename_i hc
      have hyx : ahd cf y x := by
        have a := h.cross hy
        rcases a.2 with k | k
        · exact absurd (a.1.2 k) hc
        · exact k
      refine List.pairwise_cons.2 ⟨fun a ha => ?_, hp⟩
      rcases List.mem_cons.1 ha with rfl | ha
      · exact hyx
      · exact h.tr (h1 a ha) hyx
theorem srtR_ahd (h : CmpLaw cf) : ∀ (l acc : List Int), acc.Pairwise (fun b a => ahd cf a b) → (∀ y ∈ acc, ∀ x ∈ l, y < x) → l.Pairwise (· < ·) → (l.foldl (fun acc x => insR cf x acc) acc).Pairwise (fun b a => ahd cf a b) := by
  intro l
  induction l with
  | nil => intro acc hp _ _; exact hp
  | cons x l ih =>
    intro acc hp hlt hl
    obtain ⟨h1, h2⟩ := List.pairwise_cons.1 hl
    rw [List.foldl_cons]
    refine ih _ (insR_ahd h x acc hp (fun y hy => hlt y hy x List.mem_cons_self)) (fun y hy z hz => ?_) h2
    rcases (insR_mem _ _ _ _).1 hy with rfl | hy
    · exact h1 z hz
    · exact hlt y hy z (List.mem_cons_of_mem _ hz)
/-- The insertion sort of rising numbers is the stable order. -/
theorem srt_ahd (h : CmpLaw cf) (l : List Int) (hl : l.Pairwise (· < ·)) : (srt cf l).Pairwise (ahd cf) := by
  unfold srt srtR
  rw [List.pairwise_reverse]
  exact srtR_ahd h l [] List.Pairwise.nil (fun y hy => by simp at hy) hl
theorem insR_perm' (cf : Int → Int → Int) (x : Int) : ∀ l, (insR cf x l).Perm (x :: l) := by
  intro l
  induction l with
  | nil => exact List.Perm.refl _
  | cons y l ih =>
    unfold insR
    split
    · exact (ih.cons y).trans (List.Perm.swap x y l)
    · exact List.Perm.refl _
theorem srt_perm' (cf : Int → Int → Int) (l : List Int) : (srt cf l).Perm l := by
  have key : ∀ (l acc : List Int), (l.foldl (fun acc x => insR cf x acc) acc).Perm (l ++ acc) := by
    intro l
    induction l with
    | nil => intro acc; exact List.Perm.refl _
    | cons a l ih =>
      intro acc
      rw [List.foldl_cons]
      refine (ih _).trans ?_
      refine ((insR_perm' cf a acc).append_left l).trans ?_
      exact List.perm_middle
  unfold srt srtR
  refine (List.reverse_perm _).trans ?_
  have := key l []
  rwa [List.append_nil] at this
/-- What is sorted so and has the same numbers is the insertion sort's answer. -/
theorem srt_one (h : CmpLaw cf) {l m : List Int} (hl : l.Pairwise (· < ·)) (hm : m.Pairwise (ahd cf)) (hp : m.Perm l) : m = srt cf l :=
  List.Perm.eq_of_pairwise (le := ahd cf) (fun _ _ _ _ h1 h2 => h.asym h1 h2) hm (srt_ahd h l hl) (hp.trans (srt_perm' cf l).symm)
theorem upto_pw (n : Nat) : (upto n).Pairwise (· < ·) := by
  unfold upto
  exact List.Pairwise.map _ (fun a b (h : a < b) => by show (a : Int) < (b : Int); omega) List.pairwise_lt_range
theorem upto_seg (n a b : Nat) (x : Int) (h : x ∈ seg (upto n) a b) : (a : Int) ≤ x ∧ x < b := by
  obtain ⟨i, h1, h2, h3, rfl⟩ := mem_seg h
  rw [upto_length] at h3
  have : (upto n).getD i 0 = (i : Int) := by simp [upto, List.getD_eq_getElem?_getD, h3]
  rw [this]; omega
/-- A segment that is in the stable order, and has the numbers that it began with. -/
def Sg (cf : Int → Int → Int) (n : Nat) (ys : List Int) (a b : Nat) : Prop := (seg ys a b).Pairwise (ahd cf) ∧ (seg ys a b).Perm (seg (upto n) a b)
theorem Sg.keep {n : Nat} {ys zs : List Int} {i j a b : Nat} (h : Sg cf n ys i j) (hl : zs.length = ys.length) (h1 : zs.take a = ys.take a) (h2 : zs.drop b = ys.drop b) (h3 : j ≤ a ∨ b ≤ i) : Sg cf n zs i j := by
  have e : seg zs i j = seg ys i j := by
    rcases h3 with h3 | h3
    · exact take_seg zs ys h1 h3
    · exact drop_seg zs ys hl h2 h3
  unfold Sg
  rw [e]
  exact h
theorem Sg.merge (h : CmpLaw cf) {n : Nat} {ys : List Int} {a m b : Nat} (h1 : Sg cf n ys a m) (h2 : Sg cf n ys m b) (l1 : a < m) (l2 : m < b) (le : b ≤ ys.length) : MergeOK cf (ahd cf) ys a m b :=
  ⟨l1, l2, le, h1.1, h2.1, fun x hx y hy => by
    have a1 := upto_seg n a m x (h1.2.mem_iff.1 hx)
    have a2 := upto_seg n m b y (h2.2.mem_iff.1 hy)
    exact h.cross (by omega), fun _ _ _ => h.tr⟩
theorem Sg.join {n : Nat} {ys zs : List Int} {a m b : Nat} (h1 : Sg cf n ys a m) (h2 : Sg cf n ys m b) (l1 : a ≤ m) (l2 : m ≤ b) (hf : Fr ys zs a b) (hp : (seg zs a b).Pairwise (ahd cf)) : Sg cf n zs a b := by
  refine ⟨hp, hf.perm.trans ?_⟩
  rw [seg_split ys l1 l2, seg_split (upto n) l1 l2]
  exact (h1.2.append_right _).trans (List.Perm.append_left _ h2.2)
/-- The data in the course of the sort: numbers in some order, of which the block g has them. -/
structure ST (cf : Int → Int → Int) (g n : Nat) (w0 W : World) (ys : List Int) : Prop where
  k : Kp (fun i => i = g) w0 W
  b : Blk W g (ints ys) 3
  p : ys.Perm (upto n)
theorem ST.len {g n : Nat} {w0 W : World} {ys : List Int} (h : ST cf g n w0 W ys) : ys.length = n := by rw [h.p.length_eq, upto_length]
theorem ST.dom {g n : Nat} {w0 W : World} {ys : List Int} (h : ST cf g n w0 W ys) : ∀ x ∈ ys, 0 ≤ x ∧ x < n := fun x hx => (upto_mem n x).1 (h.p.mem_iff.1 hx)
theorem Fr.perm_all {xs ys : List Int} {a b : Nat} (h : Fr xs ys a b) (hab : a ≤ b) : ys.Perm xs := by
  rw [seg_whole ys hab, seg_whole xs hab, h.lo, h.hi]
  exact List.Perm.append_left _ (h.perm.append_right _)
def IPost (cf : Int → Int → Int) (g n : Nat) (w0 : World) (ys : List Int) (lo hi : Nat) (e : Ending) (w' : World) : Prop :=
  e = .returned (.tuple #[]) ∧ ∃ zs, ST cf g n w0 w' zs ∧ zs.take lo = ys.take lo ∧ zs.drop hi = ys.drop hi ∧ Sg cf n zs lo hi
theorem isort_step {k b g : Nat} {I : World → Prop} {n : Nat} (hC : CmpC k b I cf (fun x => 0 ≤ x ∧ x < n) g) (hL : CmpLaw cf) (hn : n ≤ 128) {w0 : World} (hI : I w0) {W : World} {ys : List Int} (h : ST cf g n w0 W ys) (lo hi : Nat) (hlh : lo ≤ hi) (hh : hi ≤ n) (hd : ys.drop lo = (upto n).drop lo) :
    Calls Try.prog 134 #[.slice (some ⟨g, 0, none⟩) n n, .int .i64 lo, .int .i64 hi, .func (.func k) #[] #[.pointer (some ⟨b, 0, none⟩)]] W (IPost cf g n w0 ys lo hi) := by
  have hl := h.len
  refine (isort_any hC ys h.dom W h.b (hC.keep _ _ hI h.k) lo hi hlh (by omega) n n (by omega) (by omega)).mono ?_
  rintro e w' ⟨rfl, hk, hb⟩
  have hseg : (ys.drop lo).take (hi - lo) = seg (upto n) lo hi := by
    rw [hd]; unfold seg; rw [List.drop_take]
  have hsl : (srt cf ((ys.drop lo).take (hi - lo))).length = hi - lo := by rw [srt_length, hseg, seg_length _ _ _ (by rw [upto_length]; omega)]
  have hlen : (ys.take lo ++ (srt cf ((ys.drop lo).take (hi - lo)) ++ ys.drop hi)).length = ys.length := by
    rw [List.length_append, List.length_append, hsl, List.length_take, List.length_drop]; omega
  have h1 : (ys.take lo ++ (srt cf ((ys.drop lo).take (hi - lo)) ++ ys.drop hi)).take lo = ys.take lo := by
    rw [List.take_append, List.length_take, show lo - min lo ys.length = 0 by omega, List.take_zero, List.append_nil, List.take_take, Nat.min_self]
  have hpre : (ys.take lo ++ srt cf ((ys.drop lo).take (hi - lo))).length = hi := by rw [List.length_append, hsl, List.length_take]; omega
  have h2 : (ys.take lo ++ (srt cf ((ys.drop lo).take (hi - lo)) ++ ys.drop hi)).drop hi = ys.drop hi := by
    rw [← List.append_assoc, List.drop_append, hpre, Nat.sub_self, List.drop_zero, List.drop_eq_nil_of_le (by omega), List.nil_append]
  have h3 : seg (ys.take lo ++ (srt cf ((ys.drop lo).take (hi - lo)) ++ ys.drop hi)) lo hi = srt cf ((ys.drop lo).take (hi - lo)) := by
    unfold seg
    rw [← List.append_assoc, List.take_append, hpre, Nat.sub_self, List.take_zero, List.append_nil, List.take_of_length_le (by omega), List.drop_append, List.length_take, show lo - min lo ys.length = 0 by omega, List.drop_zero, List.drop_eq_nil_of_le (by rw [List.length_take]; omega), List.nil_append]
  have hys : seg ys lo hi = seg (upto n) lo hi := by rw [← hseg]; unfold seg; rw [List.drop_take]
  have hsg : Sg cf n (ys.take lo ++ (srt cf ((ys.drop lo).take (hi - lo)) ++ ys.drop hi)) lo hi := by
    unfold Sg
    rw [h3, hseg]
    refine ⟨srt_ahd hL _ ?_, srt_perm' cf _⟩
    unfold seg
    exact ((upto_pw n).sublist (List.take_sublist _ _)).sublist (List.drop_sublist _ _)
  have hF : Fr ys (ys.take lo ++ (srt cf ((ys.drop lo).take (hi - lo)) ++ ys.drop hi)) lo hi := ⟨hlen, h1, h2, by rw [hys]; exact hsg.2⟩
  exact ⟨rfl, _, ⟨h.k.step hk, hb, (hF.perm_all hlh).trans h.p⟩, h1, h2, hsg⟩
theorem merge_step {k b g : Nat} {I : World → Prop} {n : Nat} (hC : CmpC k b I cf (fun x => 0 ≤ x ∧ x < n) g) (hL : CmpLaw cf) (hn : n ≤ 128) {w0 : World} (hI : I w0) {W : World} {ys : List Int} (h : ST cf g n w0 W ys) (lo mi hi : Nat) (l1 : lo < mi) (l2 : mi < hi) (hh : hi ≤ n) (h1 : Sg cf n ys lo mi) (h2 : Sg cf n ys mi hi) :
    Calls Try.prog 135 #[.slice (some ⟨g, 0, none⟩) n n, .int .i64 lo, .int .i64 mi, .int .i64 hi, .func (.func k) #[] #[.pointer (some ⟨b, 0, none⟩)]] W (IPost cf g n w0 ys lo hi) := by
  have hl := h.len
  refine (merge_any hC n n (by omega) (hi - lo) ys W lo mi hi (Nat.le_refl _) (h1.merge hL h2 l1 l2 (by omega)) h.dom h.b (hC.keep _ _ hI h.k) (by omega)).mono ?_
  rintro e w' ⟨rfl, hk, zs, hf, hp, hb⟩
  exact ⟨rfl, zs, ⟨h.k.step hk, hb, (hf.perm_all (by omega)).trans h.p⟩, hf.lo, hf.hi, h1.join h2 (by omega) (by omega) hf hp⟩
end
end Go.Proofs.Ythkfahkkcjagdaa
end
section
namespace Go.Proofs.Ythkfahkkcjagdaa
open Go.RowKit Go.Proofs.YthkfahkkcjagdaaW.PrintWords Go.Proofs.YthkfahkkcjagdaaW.PrintMore Go.Proofs.YthkfahkkcjagdaaW.PrintLast

theorem int_eq {a b : Int} (h : a = b) : Value.int .i64 a = .int .i64 b := by rw [h]
def SBk (cf : Int → Int → Int) (g n B : Nat) (w W : World) : Prop := ∃ ys, ST cf g n w W ys ∧ ∀ i : Nat, B * i ≤ n → Sg cf n ys (B * i) (min (B * i + B) n)
theorem SBk.done {cf : Int → Int → Int} (hL : CmpLaw cf) {g n B : Nat} {w W : World} (h : SBk cf g n B w W) (hB : n ≤ B) : Kp (fun i => i = g) w W ∧ Blk W g (ints (srt cf (upto n))) 3 := by
  obtain ⟨ys, h1, h2⟩ := h
  have a := h2 0 (by omega)
  rw [Nat.mul_zero, Nat.zero_add, Nat.min_eq_right hB] at a
  have e : seg ys 0 n = ys := by unfold seg; rw [List.drop_zero, List.take_of_length_le (by rw [h1.len]; omega)]
  have p := a.1
  rw [e] at p
  have := srt_one hL (upto_pw n) p h1.p
  exact ⟨h1.k, by rw [← this]; exact h1.b⟩

set_option maxRecDepth 100000 in
set_option maxHeartbeats 8000000 in
theorem stable_any {k b g : Nat} {I : World → Prop} {cf : Int → Int → Int} {n : Nat} (hC : CmpC k b I cf (fun x => 0 ≤ x ∧ x < n) g) (hL : CmpLaw cf) (hn : n ≤ 128) (w : World) (hg : Blk w g (ints (upto n)) 3) (hI : I w) :
    Calls Try.prog 125 #[.slice (some ⟨g, 0, none⟩) n n, .int .i64 n, .func (.func k) #[] #[.pointer (some ⟨b, 0, none⟩)]] w
      fun e w' => e = .returned (.tuple #[]) ∧ Kp (fun i => i = g) w w' ∧ Blk w' g (ints (srt cf (upto n))) 3 := by
  have HC := Aside0.mk hC; clear hC
  have HL := Aside0.mk hL; clear hL
  have HI := Aside0.mk hI; clear hI
  have HG := Aside0.mk hg; clear hg
  go_enter Try.func125, Try.ntmps125
  go_wp2_with fail
  go_loopw [7, 8] (fun v7 v8 wr => ∃ t : Nat, v7 = .int .i64 (20 * (t : Int)) ∧ v8 = .int .i64 (20 * (t : Int) + 20) ∧ 20 * t ≤ n ∧ Aside0 (∃ ys, ST cf g n w wr ys ∧ (∀ i : Nat, i < t → Sg cf n ys (20 * i) (20 * i + 20)) ∧ ys.drop (20 * t) = (upto n).drop (20 * t))) (fun v _ _ => n - (intOf v).toNat)
  case atStart => exact ⟨0, rfl, rfl, by omega, ⟨upto n, ⟨Kp.refl _ _, HG.out, List.Perm.refl _⟩, fun i hi => by omega, rfl⟩⟩
  case round =>
    obtain ⟨t, rfl, rfl, ht, HT⟩ := hrel
    by_cases hb : 20 * t + 20 ≤ n
    · have hb1 : 20 * (t : Int) + 20 ≤ n := by omega
      obtain ⟨ys, h1, h2, h3⟩ := HT.out
      have hc := isort_step HC.out HL.out hn HI.out h1 (20 * t) (20 * t + 20) (by omega) hb h3
      rw [show ((20 * t : Nat) : Int) = 20 * (t : Int) by omega, show ((20 * t + 20 : Nat) : Int) = 20 * (t : Int) + 20 by omega] at hc
      have HCALL := Aside0.mk hc
      have HYS := Aside0.mk (And.intro h1.len (And.intro h2 h3))
      clear hc h1 h2 h3 HT
      go_wp2_with ((with_reducible refine HCALL.out.mono ?_); rintro e5 w5 ⟨rfl, hp5⟩; have H5 := Aside0.mk hp5; clear hp5)
      go_roundw
      case rel =>
        refine ⟨t + 1, int_eq (by omega), int_eq (by omega), by omega, ⟨?_⟩⟩
        obtain ⟨zs, g1, g2, g3, g4⟩ := H5.out
        obtain ⟨hyl, h2, h3⟩ := HYS.out
        have hl : zs.length = ys.length := by rw [g1.len, hyl]
        refine ⟨zs, g1, fun i hi => ?_, ?_⟩
        · rcases (show i < t ∨ i = t by omega) with h | rfl
          · exact (h2 i h).keep hl g2 g3 (.inl (by omega))
          · exact g4
        · rw [show 20 * (t + 1) = 20 * t + 20 by omega, g3]
          have := congrArg (List.drop 20) h3
          rwa [List.drop_drop, List.drop_drop] at this
      case measure => simp only [intOf]; omega
    · have hb1 : ¬ 20 * (t : Int) + 20 ≤ n := by omega
      have hbd : decide (20 * (t : Int) + 20 ≤ n) = false := decide_eq_false hb1
      obtain ⟨ys, h1, h2, h3⟩ := HT.out
      have hc := isort_step HC.out HL.out hn HI.out h1 (20 * t) n (by omega) (Nat.le_refl n) h3
      rw [show ((20 * t : Nat) : Int) = 20 * (t : Int) by omega] at hc
      have HCALL := Aside0.mk hc
      have HYS := Aside0.mk (And.intro h1.len (And.intro h2 h3))
      clear hc h1 h2 h3 HT
      go_wp2_with ((with_reducible refine HCALL.out.mono ?_); rintro e5 w5 ⟨rfl, hp5⟩; have H5 := Aside0.mk hp5; clear hp5)
      have HS : Aside0 (SBk cf g n 20 w w5) := ⟨by
        obtain ⟨zs, g1, g2, g3, g4⟩ := H5.out
        obtain ⟨hyl, h2, h3⟩ := HYS.out
        have hl : zs.length = ys.length := by rw [g1.len, hyl]
        refine ⟨zs, g1, fun i hi => ?_⟩
        rcases (show i < t ∨ i = t by omega) with h | rfl
        · rw [show min (20 * i + 20) n = 20 * i + 20 by omega]
          exact (h2 i h).keep hl g2 g3 (.inl (by omega))
        · rw [show min (20 * i + 20) n = n by omega]
          exact g4⟩
      clear HYS H5 HCALL hb hb1 hbd
      go_loopw [6] (fun v6 wr => 0 ≤ n ∧ ((v6 = .int .i64 20 ∧ Aside0 (SBk cf g n 20 w wr)) ∨ (v6 = .int .i64 40 ∧ Aside0 (SBk cf g n 40 w wr)) ∨ (v6 = .int .i64 80 ∧ Aside0 (SBk cf g n 80 w wr)) ∨ (v6 = .int .i64 160 ∧ Aside0 (SBk cf g n 160 w wr)))) (fun v _ => 200 - (intOf v).toNat)
      case atStart => exact ⟨by omega, .inl ⟨rfl, HS⟩⟩
      case round =>
       obtain ⟨_, hrel⟩ := hrel
       clear HS
       rcases hrel with ⟨rfl, HS⟩ | ⟨rfl, HS⟩ | ⟨rfl, HS⟩ | ⟨rfl, HS⟩
       · by_cases h20 : 20 < n
         · obtain ⟨wo, rfl⟩ : ∃ wo : World, wo = wr := ⟨_, rfl⟩
           have hd1 : decide ((20 : Int) < n) = true := decide_eq_true (by omega)
           go_wp2_with fail
           go_loopw [7, 8] (fun v7 v8 wr => ∃ t : Nat, v7 = .int .i64 (40 * (t : Int)) ∧ v8 = .int .i64 (40 * (t : Int) + 40) ∧ 40 * t ≤ n ∧ Aside0 (∃ ys, ST cf g n w wr ys ∧ (∀ i : Nat, i < t → Sg cf n ys (40 * i) (40 * i + 40)) ∧ ∀ j : Nat, 2 * t ≤ j → 20 * j ≤ n → Sg cf n ys (20 * j) (min (20 * j + 20) n))) (fun v _ _ => n - (intOf v).toNat)
           case atStart =>
             refine ⟨0, rfl, rfl, by omega, ⟨?_⟩⟩
             obtain ⟨ys, h1, h2⟩ := HS.out
             exact ⟨ys, h1, fun i hi => by omega, fun j _ hj => h2 j hj⟩
           case round =>
             obtain ⟨t, rfl, rfl, ht, HT⟩ := hrel
             by_cases hb : 40 * t + 40 ≤ n
             · have hb1 : 40 * (t : Int) + 40 ≤ n := by omega
               obtain ⟨ys, h1, h2, h3⟩ := HT.out
               have p1 := h3 (2 * t) (by omega) (by omega)
               have p2 := h3 (2 * t + 1) (by omega) (by omega)
               rw [show min (20 * (2 * t) + 20) n = 40 * t + 20 by omega, show 20 * (2 * t) = 40 * t by omega] at p1
               rw [show min (20 * (2 * t + 1) + 20) n = 40 * t + 40 by omega, show 20 * (2 * t + 1) = 40 * t + 20 by omega] at p2
               have hc := merge_step HC.out HL.out hn HI.out h1 (40 * t) (40 * t + 20) (40 * t + 40) (by omega) (by omega) hb p1 p2
               rw [show ((40 * t : Nat) : Int) = 40 * (t : Int) by omega, show ((40 * t + 20 : Nat) : Int) = 40 * (t : Int) + 20 by omega, show ((40 * t + 40 : Nat) : Int) = 40 * (t : Int) + 40 by omega] at hc
               have HCALL := Aside0.mk hc
               have HYS := Aside0.mk (And.intro h1.len (And.intro h2 h3))
               clear hc p1 p2 h1 h2 h3 HT HS
               go_wp2_with ((with_reducible refine HCALL.out.mono ?_); rintro e5 w5 ⟨rfl, hp5⟩; have H5 := Aside0.mk hp5; clear hp5)
               go_roundw
               case rel =>
                 refine ⟨t + 1, int_eq (by omega), int_eq (by omega), by omega, ⟨?_⟩⟩
                 obtain ⟨zs, g1, g2, g3, g4⟩ := H5.out
                 obtain ⟨hyl, h2, h3⟩ := HYS.out
                 have hl : zs.length = ys.length := by rw [g1.len, hyl]
                 refine ⟨zs, g1, fun i hi => ?_, fun j hj hjn => (h3 j (by omega) hjn).keep hl g2 g3 (.inr (by omega))⟩
                 rcases (show i < t ∨ i = t by omega) with h | rfl
                 · exact (h2 i h).keep hl g2 g3 (.inl (by omega))
                 · exact g4
               case measure => simp only [intOf]; omega
             · have hb1 : ¬ 40 * (t : Int) + 40 ≤ n := by omega
               have hbd : decide (40 * (t : Int) + 40 ≤ n) = false := decide_eq_false hb1
               by_cases hm : 40 * t + 20 < n
               · have hm1 : 40 * (t : Int) + 20 < n := by omega
                 have hmd : decide (40 * (t : Int) + 20 < n) = true := decide_eq_true hm1
                 obtain ⟨ys, h1, h2, h3⟩ := HT.out
                 have p1 := h3 (2 * t) (by omega) (by omega)
                 have p2 := h3 (2 * t + 1) (by omega) (by omega)
                 rw [show min (20 * (2 * t) + 20) n = 40 * t + 20 by omega, show 20 * (2 * t) = 40 * t by omega] at p1
                 rw [show min (20 * (2 * t + 1) + 20) n = n by omega, show 20 * (2 * t + 1) = 40 * t + 20 by omega] at p2
                 have hc := merge_step HC.out HL.out hn HI.out h1 (40 * t) (40 * t + 20) n (by omega) (by omega) (Nat.le_refl n) p1 p2
                 rw [show ((40 * t : Nat) : Int) = 40 * (t : Int) by omega, show ((40 * t + 20 : Nat) : Int) = 40 * (t : Int) + 20 by omega] at hc
                 have HCALL := Aside0.mk hc
                 have HYS := Aside0.mk (And.intro h1.len (And.intro h2 h3))
                 clear hc p1 p2 h1 h2 h3 HT HS
                 go_wp2_with ((with_reducible refine HCALL.out.mono ?_); rintro e5 w5 ⟨rfl, hp5⟩; have H5 := Aside0.mk hp5; clear hp5)
                 go_roundw
                 case rel =>
                   refine ⟨by omega, .inr (.inl ⟨rfl, ⟨?_⟩⟩)⟩
                   obtain ⟨zs, g1, g2, g3, g4⟩ := H5.out
                   obtain ⟨hyl, h2, h3⟩ := HYS.out
                   have hl : zs.length = ys.length := by rw [g1.len, hyl]
                   refine ⟨zs, g1, fun i hi => ?_⟩
                   rcases (show i < t ∨ i = t by omega) with h | rfl
                   · rw [show min (40 * i + 40) n = 40 * i + 40 by omega]
                     exact (h2 i h).keep hl g2 g3 (.inl (by omega))
                   · rw [show min (40 * i + 40) n = n by omega]
                     exact g4
                 case measure => simp only [intOf]; omega
               · have hm1 : ¬ 40 * (t : Int) + 20 < n := by omega
                 have hmd : decide (40 * (t : Int) + 20 < n) = false := decide_eq_false hm1
                 go_wp2_with fail
                 go_roundw
                 case rel =>
                   refine ⟨by omega, .inr (.inl ⟨rfl, ⟨?_⟩⟩)⟩
                   obtain ⟨ys, h1, h2, h3⟩ := HT.out
                   refine ⟨ys, h1, fun i hi => ?_⟩
                   rcases (show i < t ∨ i = t by omega) with h | rfl
                   · rw [show min (40 * i + 40) n = 40 * i + 40 by omega]
                     exact h2 i h
                   · have p1 := h3 (2 * i) (by omega) (by omega)
                     rw [show min (20 * (2 * i) + 20) n = n by omega, show 20 * (2 * i) = 40 * i by omega] at p1
                     rw [show min (40 * i + 40) n = n by omega]
                     exact p1
                 case measure => simp only [intOf]; omega
         · have hd1 : decide ((20 : Int) < n) = false := decide_eq_false (by omega)
           have HF := Aside0.mk (HS.out.done HL.out (by omega))
           go_wp2_with fail
           go_end0
           exact ⟨rfl, HF.out⟩
       · by_cases h20 : 40 < n
         · obtain ⟨wo, rfl⟩ : ∃ wo : World, wo = wr := ⟨_, rfl⟩
           have hd1 : decide ((40 : Int) < n) = true := decide_eq_true (by omega)
           go_wp2_with fail
           go_loopw [7, 8] (fun v7 v8 wr => ∃ t : Nat, v7 = .int .i64 (80 * (t : Int)) ∧ v8 = .int .i64 (80 * (t : Int) + 80) ∧ 80 * t ≤ n ∧ Aside0 (∃ ys, ST cf g n w wr ys ∧ (∀ i : Nat, i < t → Sg cf n ys (80 * i) (80 * i + 80)) ∧ ∀ j : Nat, 2 * t ≤ j → 40 * j ≤ n → Sg cf n ys (40 * j) (min (40 * j + 40) n))) (fun v _ _ => n - (intOf v).toNat)
           case atStart =>
             refine ⟨0, rfl, rfl, by omega, ⟨?_⟩⟩
             obtain ⟨ys, h1, h2⟩ := HS.out
             exact ⟨ys, h1, fun i hi => by omega, fun j _ hj => h2 j hj⟩
           case round =>
             obtain ⟨t, rfl, rfl, ht, HT⟩ := hrel
             by_cases hb : 80 * t + 80 ≤ n
             · have hb1 : 80 * (t : Int) + 80 ≤ n := by omega
               obtain ⟨ys, h1, h2, h3⟩ := HT.out
               have p1 := h3 (2 * t) (by omega) (by omega)
               have p2 := h3 (2 * t + 1) (by omega) (by omega)
               rw [show min (40 * (2 * t) + 40) n = 80 * t + 40 by omega, show 40 * (2 * t) = 80 * t by omega] at p1
               rw [show min (40 * (2 * t + 1) + 40) n = 80 * t + 80 by omega, show 40 * (2 * t + 1) = 80 * t + 40 by omega] at p2
               have hc := merge_step HC.out HL.out hn HI.out h1 (80 * t) (80 * t + 40) (80 * t + 80) (by omega) (by omega) hb p1 p2
               rw [show ((80 * t : Nat) : Int) = 80 * (t : Int) by omega, show ((80 * t + 40 : Nat) : Int) = 80 * (t : Int) + 40 by omega, show ((80 * t + 80 : Nat) : Int) = 80 * (t : Int) + 80 by omega] at hc
               have HCALL := Aside0.mk hc
               have HYS := Aside0.mk (And.intro h1.len (And.intro h2 h3))
               clear hc p1 p2 h1 h2 h3 HT HS
               go_wp2_with ((with_reducible refine HCALL.out.mono ?_); rintro e5 w5 ⟨rfl, hp5⟩; have H5 := Aside0.mk hp5; clear hp5)
               go_roundw
               case rel =>
                 refine ⟨t + 1, int_eq (by omega), int_eq (by omega), by omega, ⟨?_⟩⟩
                 obtain ⟨zs, g1, g2, g3, g4⟩ := H5.out
                 obtain ⟨hyl, h2, h3⟩ := HYS.out
                 have hl : zs.length = ys.length := by rw [g1.len, hyl]
                 refine ⟨zs, g1, fun i hi => ?_, fun j hj hjn => (h3 j (by omega) hjn).keep hl g2 g3 (.inr (by omega))⟩
                 rcases (show i < t ∨ i = t by omega) with h | rfl
                 · exact (h2 i h).keep hl g2 g3 (.inl (by omega))
                 · exact g4
               case measure => simp only [intOf]; omega
             · have hb1 : ¬ 80 * (t : Int) + 80 ≤ n := by omega
               have hbd : decide (80 * (t : Int) + 80 ≤ n) = false := decide_eq_false hb1
               by_cases hm : 80 * t + 40 < n
               · have hm1 : 80 * (t : Int) + 40 < n := by omega
                 have hmd : decide (80 * (t : Int) + 40 < n) = true := decide_eq_true hm1
                 obtain ⟨ys, h1, h2, h3⟩ := HT.out
                 have p1 := h3 (2 * t) (by omega) (by omega)
                 have p2 := h3 (2 * t + 1) (by omega) (by omega)
                 rw [show min (40 * (2 * t) + 40) n = 80 * t + 40 by omega, show 40 * (2 * t) = 80 * t by omega] at p1
                 rw [show min (40 * (2 * t + 1) + 40) n = n by omega, show 40 * (2 * t + 1) = 80 * t + 40 by omega] at p2
                 have hc := merge_step HC.out HL.out hn HI.out h1 (80 * t) (80 * t + 40) n (by omega) (by omega) (Nat.le_refl n) p1 p2
                 rw [show ((80 * t : Nat) : Int) = 80 * (t : Int) by omega, show ((80 * t + 40 : Nat) : Int) = 80 * (t : Int) + 40 by omega] at hc
                 have HCALL := Aside0.mk hc
                 have HYS := Aside0.mk (And.intro h1.len (And.intro h2 h3))
                 clear hc p1 p2 h1 h2 h3 HT HS
                 go_wp2_with ((with_reducible refine HCALL.out.mono ?_); rintro e5 w5 ⟨rfl, hp5⟩; have H5 := Aside0.mk hp5; clear hp5)
                 go_roundw
                 case rel =>
                   refine ⟨by omega, .inr (.inr (.inl ⟨rfl, ⟨?_⟩⟩))⟩
                   obtain ⟨zs, g1, g2, g3, g4⟩ := H5.out
                   obtain ⟨hyl, h2, h3⟩ := HYS.out
                   have hl : zs.length = ys.length := by rw [g1.len, hyl]
                   refine ⟨zs, g1, fun i hi => ?_⟩
                   rcases (show i < t ∨ i = t by omega) with h | rfl
                   · rw [show min (80 * i + 80) n = 80 * i + 80 by omega]
                     exact (h2 i h).keep hl g2 g3 (.inl (by omega))
                   · rw [show min (80 * i + 80) n = n by omega]
                     exact g4
                 case measure => simp only [intOf]; omega
               · have hm1 : ¬ 80 * (t : Int) + 40 < n := by omega
                 have hmd : decide (80 * (t : Int) + 40 < n) = false := decide_eq_false hm1
                 go_wp2_with fail
                 go_roundw
                 case rel =>
                   refine ⟨by omega, .inr (.inr (.inl ⟨rfl, ⟨?_⟩⟩))⟩
                   obtain ⟨ys, h1, h2, h3⟩ := HT.out
                   refine ⟨ys, h1, fun i hi => ?_⟩
                   rcases (show i < t ∨ i = t by omega) with h | rfl
                   · rw [show min (80 * i + 80) n = 80 * i + 80 by omega]
                     exact h2 i h
                   · have p1 := h3 (2 * i) (by omega) (by omega)
                     rw [show min (40 * (2 * i) + 40) n = n by omega, show 40 * (2 * i) = 80 * i by omega] at p1
                     rw [show min (80 * i + 80) n = n by omega]
                     exact p1
                 case measure => simp only [intOf]; omega
         · have hd1 : decide ((40 : Int) < n) = false := decide_eq_false (by omega)
           have HF := Aside0.mk (HS.out.done HL.out (by omega))
           go_wp2_with fail
           go_end0
           exact ⟨rfl, HF.out⟩
       · by_cases h20 : 80 < n
         · obtain ⟨wo, rfl⟩ : ∃ wo : World, wo = wr := ⟨_, rfl⟩
           have hd1 : decide ((80 : Int) < n) = true := decide_eq_true (by omega)
           go_wp2_with fail
           go_loopw [7, 8] (fun v7 v8 wr => ∃ t : Nat, v7 = .int .i64 (160 * (t : Int)) ∧ v8 = .int .i64 (160 * (t : Int) + 160) ∧ 160 * t ≤ n ∧ Aside0 (∃ ys, ST cf g n w wr ys ∧ (∀ i : Nat, i < t → Sg cf n ys (160 * i) (160 * i + 160)) ∧ ∀ j : Nat, 2 * t ≤ j → 80 * j ≤ n → Sg cf n ys (80 * j) (min (80 * j + 80) n))) (fun v _ _ => n - (intOf v).toNat)
           case atStart =>
             refine ⟨0, rfl, rfl, by omega, ⟨?_⟩⟩
             obtain ⟨ys, h1, h2⟩ := HS.out
             exact ⟨ys, h1, fun i hi => by omega, fun j _ hj => h2 j hj⟩
           case round =>
             obtain ⟨t, rfl, rfl, ht, HT⟩ := hrel
             by_cases hb : 160 * t + 160 ≤ n
             · have hb1 : 160 * (t : Int) + 160 ≤ n := by omega
               obtain ⟨ys, h1, h2, h3⟩ := HT.out
               have p1 := h3 (2 * t) (by omega) (by omega)
               have p2 := h3 (2 * t + 1) (by omega) (by omega)
               rw [show min (80 * (2 * t) + 80) n = 160 * t + 80 by omega, show 80 * (2 * t) = 160 * t by omega] at p1
               rw [show min (80 * (2 * t + 1) + 80) n = 160 * t + 160 by omega, show 80 * (2 * t + 1) = 160 * t + 80 by omega] at p2
               have hc := merge_step HC.out HL.out hn HI.out h1 (160 * t) (160 * t + 80) (160 * t + 160) (by omega) (by omega) hb p1 p2
               rw [show ((160 * t : Nat) : Int) = 160 * (t : Int) by omega, show ((160 * t + 80 : Nat) : Int) = 160 * (t : Int) + 80 by omega, show ((160 * t + 160 : Nat) : Int) = 160 * (t : Int) + 160 by omega] at hc
               have HCALL := Aside0.mk hc
               have HYS := Aside0.mk (And.intro h1.len (And.intro h2 h3))
               clear hc p1 p2 h1 h2 h3 HT HS
               go_wp2_with ((with_reducible refine HCALL.out.mono ?_); rintro e5 w5 ⟨rfl, hp5⟩; have H5 := Aside0.mk hp5; clear hp5)
               go_roundw
               case rel =>
                 refine ⟨t + 1, int_eq (by omega), int_eq (by omega), by omega, ⟨?_⟩⟩
                 obtain ⟨zs, g1, g2, g3, g4⟩ := H5.out
                 obtain ⟨hyl, h2, h3⟩ := HYS.out
                 have hl : zs.length = ys.length := by rw [g1.len, hyl]
                 refine ⟨zs, g1, fun i hi => ?_, fun j hj hjn => (h3 j (by omega) hjn).keep hl g2 g3 (.inr (by omega))⟩
                 rcases (show i < t ∨ i = t by omega) with h | rfl
                 · exact (h2 i h).keep hl g2 g3 (.inl (by omega))
                 · exact g4
               case measure => simp only [intOf]; omega
             · have hb1 : ¬ 160 * (t : Int) + 160 ≤ n := by omega
               have hbd : decide (160 * (t : Int) + 160 ≤ n) = false := decide_eq_false hb1
               by_cases hm : 160 * t + 80 < n
               · have hm1 : 160 * (t : Int) + 80 < n := by omega
                 have hmd : decide (160 * (t : Int) + 80 < n) = true := decide_eq_true hm1
                 obtain ⟨ys, h1, h2, h3⟩ := HT.out
                 have p1 := h3 (2 * t) (by omega) (by omega)
                 have p2 := h3 (2 * t + 1) (by omega) (by omega)
                 rw [show min (80 * (2 * t) + 80) n = 160 * t + 80 by omega, show 80 * (2 * t) = 160 * t by omega] at p1
                 rw [show min (80 * (2 * t + 1) + 80) n = n by omega, show 80 * (2 * t + 1) = 160 * t + 80 by omega] at p2
                 have hc := merge_step HC.out HL.out hn HI.out h1 (160 * t) (160 * t + 80) n (by omega) (by omega) (Nat.le_refl n) p1 p2
                 rw [show ((160 * t : Nat) : Int) = 160 * (t : Int) by omega, show ((160 * t + 80 : Nat) : Int) = 160 * (t : Int) + 80 by omega] at hc
                 have HCALL := Aside0.mk hc
                 have HYS := Aside0.mk (And.intro h1.len (And.intro h2 h3))
                 clear hc p1 p2 h1 h2 h3 HT HS
                 go_wp2_with ((with_reducible refine HCALL.out.mono ?_); rintro e5 w5 ⟨rfl, hp5⟩; have H5 := Aside0.mk hp5; clear hp5)
                 go_roundw
                 case rel =>
                   refine ⟨by omega, .inr (.inr (.inr ⟨rfl, ⟨?_⟩⟩))⟩
                   obtain ⟨zs, g1, g2, g3, g4⟩ := H5.out
                   obtain ⟨hyl, h2, h3⟩ := HYS.out
                   have hl : zs.length = ys.length := by rw [g1.len, hyl]
                   refine ⟨zs, g1, fun i hi => ?_⟩
                   rcases (show i < t ∨ i = t by omega) with h | rfl
                   · rw [show min (160 * i + 160) n = 160 * i + 160 by omega]
                     exact (h2 i h).keep hl g2 g3 (.inl (by omega))
                   · rw [show min (160 * i + 160) n = n by omega]
                     exact g4
                 case measure => simp only [intOf]; omega
               · have hm1 : ¬ 160 * (t : Int) + 80 < n := by omega
                 have hmd : decide (160 * (t : Int) + 80 < n) = false := decide_eq_false hm1
                 go_wp2_with fail
                 go_roundw
                 case rel =>
                   refine ⟨by omega, .inr (.inr (.inr ⟨rfl, ⟨?_⟩⟩))⟩
                   obtain ⟨ys, h1, h2, h3⟩ := HT.out
                   refine ⟨ys, h1, fun i hi => ?_⟩
                   rcases (show i < t ∨ i = t by omega) with h | rfl
                   · rw [show min (160 * i + 160) n = 160 * i + 160 by omega]
                     exact h2 i h
                   · have p1 := h3 (2 * i) (by omega) (by omega)
                     rw [show min (80 * (2 * i) + 80) n = n by omega, show 80 * (2 * i) = 160 * i by omega] at p1
                     rw [show min (160 * i + 160) n = n by omega]
                     exact p1
                 case measure => simp only [intOf]; omega
         · have hd1 : decide ((80 : Int) < n) = false := decide_eq_false (by omega)
           have HF := Aside0.mk (HS.out.done HL.out (by omega))
           go_wp2_with fail
           go_end0
           exact ⟨rfl, HF.out⟩
       · have hd1 : decide ((160 : Int) < n) = false := decide_eq_false (by omega)
         have HF := Aside0.mk (HS.out.done HL.out (by omega))
         go_wp2_with fail
         go_end0
         exact ⟨rfl, HF.out⟩
theorem sorts128 {k b g : Nat} {I : World → Prop} {cf : Int → Int → Int} {n : Nat} (hL : CmpLaw cf) (hn : n ≤ 128) : SortsTo 99 cf (fun x => 0 ≤ x ∧ x < n) k b g I (upto n) := by
  intro w hx hg hI hC
  have hs := stable_any hC hL hn w hg hI
  rw [upto_length]
  have HS := Aside0.mk hs
  clear hC hx hg hI hs
  go_enter Try.func99, Try.ntmps99
  go_wp2_with ((with_reducible refine HS.out.mono ?_); rintro e5 w5 ⟨rfl, hk5, hb5⟩; have HK5 := Aside0.mk (And.intro hk5 hb5); clear hk5 hb5)
  go_end0
  exact ⟨rfl, HK5.out⟩
end Go.Proofs.Ythkfahkkcjagdaa
end
