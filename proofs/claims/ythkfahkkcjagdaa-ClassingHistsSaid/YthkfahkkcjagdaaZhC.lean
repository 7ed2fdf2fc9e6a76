/- Texts of this claim and words of the kit's print, trimmed to what it uses and joined. -/
import Derived.Lib.BytesEntry
import Derived.Laws.Externs
import Derived.Deep.RegionHeldLaw
import Derived.Deep.AppendLies
import Derived.Laws.StructEq
import Derived.Test.YthkfahkkcjagdaaZhK
section
namespace Go.Proofs.Ythkfahkkcjagdaa
open Go.RowKit Go.Proofs.YthkfahkkcjagdaaW.PrintWords Go.Proofs.YthkfahkkcjagdaaW.PrintMore Go.Proofs.YthkfahkkcjagdaaW.PrintLast

/-- A fleece: its kind's four bytes, its diameter, its mass. -/
structure Fl where
  k0 : Int
  k1 : Int
  k2 : Int
  k3 : Int
  mic : Int
  gr : Int
  deriving DecidableEq
def fcs (f : Fl) : List Value := [.int .u8 f.k0, .int .u8 f.k1, .int .u8 f.k2, .int .u8 f.k3, .int .i64 f.mic, .int .i64 f.gr]
def fl0 : Fl := ⟨0, 0, 0, 0, 0, 0⟩
/-- A struct of four bytes and two whole numbers. -/
def kF : Kd Fl where
  sz := 6
  E := []
  K := fun _ x cs => cs = fcs x
  M := fun _ _ _ x cs => cs = fcs x
  K_len := by rintro w x cs rfl; rfl
  K_one := by rintro w x cs rfl; simp [fcs, Value.oneCell']
  K_below := fun _ h => h
  K_of_M := fun h => h
  M_mono := fun _ h => h
  M_bound := fun h => h
  M_move := fun _ h => h
  M_lower := fun _ h => h
def rdF (xs : List Fl) (i : Int) : Fl := xs.getD i.toNat fl0
theorem at_F {w : World} {A : Option Addr} {n : Nat} {xs : List Fl} (h : kF.C w A n xs) (i : Int) (h0 : 0 ≤ i) (h1 : i < n) : ∃ ad, A = some ad ∧ w.cell? (ad.add (i.toNat * 6)) = some (.int .u8 (rdF xs i).k0) ∧ w.cell? ⟨(ad.add (i.toNat * 6)).block, (ad.add (i.toNat * 6)).off + 1, none⟩ = some (.int .u8 (rdF xs i).k1) ∧ w.cell? ⟨(ad.add (i.toNat * 6)).block, (ad.add (i.toNat * 6)).off + 2, none⟩ = some (.int .u8 (rdF xs i).k2) ∧ w.cell? ⟨(ad.add (i.toNat * 6)).block, (ad.add (i.toNat * 6)).off + 3, none⟩ = some (.int .u8 (rdF xs i).k3) ∧ w.cell? ⟨(ad.add (i.toNat * 6)).block, (ad.add (i.toNat * 6)).off + 4, none⟩ = some (.int .i64 (rdF xs i).mic) ∧ w.cell? ⟨(ad.add (i.toNat * 6)).block, (ad.add (i.toNat * 6)).off + 5, none⟩ = some (.int .i64 (rdF xs i).gr) := by
  obtain ⟨ad, c, e, _, hK, hc0⟩ := Kd.C_get h fl0 i h0 h1
  have hc : ∀ j u, c[j]? = some u → w.cell? (ad.add (i.toNat * 6 + j)) = some u := hc0
  have hK' : c = fcs (rdF xs i) := hK
  subst hK'
  exact ⟨ad, e, hc 0 _ rfl, by rw [← add_field _ _ 1 (by omega)]; exact hc 1 _ rfl, by rw [← add_field _ _ 2 (by omega)]; exact hc 2 _ rfl, by rw [← add_field _ _ 3 (by omega)]; exact hc 3 _ rfl, by rw [← add_field _ _ 4 (by omega)]; exact hc 4 _ rfl, by rw [← add_field _ _ 5 (by omega)]; exact hc 5 _ rfl⟩
theorem CF_kp {S : Nat → Prop} {w w1 : World} {A : Option Addr} {n : Nat} {xs : List Fl} (h : kF.C w A n xs) (k : Kp S w w1) (hn : 0 < n → ∀ ad, A = some ad → ad.block < w.heap.size ∧ ¬ S ad.block) : kF.C w1 A n xs := by
  obtain ⟨h1, h2, h3⟩ := h
  refine ⟨h1, h2, fun hp => ?_⟩
  obtain ⟨ad, e, h4⟩ := h3 hp
  refine ⟨ad, e, fun j p hj => ?_⟩
  obtain ⟨c, h5, h6, h7⟩ := h4 j p hj
  refine ⟨c, h5, h6, fun i u hi => ?_⟩
  refine (World.cell?_of_block (w := w) ?_).trans (h7 i u hi)
  rw [add_block]
  exact k.block _ (hn hp ad e).1 (hn hp ad e).2
theorem CF_lt {w : World} {A : Option Addr} {n : Nat} {xs : List Fl} (h : kF.C w A n xs) : 0 < n → ∀ ad, A = some ad → ad.block < w.heap.size := by
  intro hp ad e
  obtain ⟨ad2, e2, hc, _⟩ := at_F h 0 (by omega) (by omega)
  rw [e] at e2
  cases e2
  have := World.block_lt_of_cell? w _ hc
  rwa [add_block] at this

def flOK (f : Fl) : Bool := decide (1 ≤ f.mic ∧ f.mic ≤ 10000 ∧ 1 ≤ f.gr ∧ f.gr ≤ 1073741824)
def spOK (l s p : Int) : Bool := decide (1 ≤ l ∧ l ≤ 16 ∧ 0 ≤ s ∧ s ≤ 1073741824 ∧ 0 ≤ p ∧ p ≤ 10000)
set_option maxHeartbeats 2000000 in
theorem fleece_any (w : World) (k0 k1 k2 k3 x y : Int) : Calls Try.prog 98 #[.agg #[.int .u8 k0, .int .u8 k1, .int .u8 k2, .int .u8 k3, .int .i64 x, .int .i64 y]] w fun e w' => e = .returned (.bool (flOK ⟨k0, k1, k2, k3, x, y⟩)) ∧ Below w.heap.size w w' := by
  have HB := Aside0.mk (below_alloc (Below.refl w.heap.size w) (.cells #[.int .u8 k0, .int .u8 k1, .int .u8 k2, .int .u8 k3, .int .i64 x, .int .i64 y] 44))
  have b0 := Blk.new w [.int .u8 k0, .int .u8 k1, .int .u8 k2, .int .u8 k3, .int .i64 x, .int .i64 y] 44
  have c4 := b0.at_ (i := 4) rfl
  have c5 := b0.at_ (i := 5) rfl
  clear b0
  by_cases h0 : 1 ≤ x
  · have d0 : decide (1 ≤ x) = true := decide_eq_true h0
    by_cases h1 : x ≤ 10000
    · have d1 : decide (x ≤ 10000) = true := decide_eq_true h1
      by_cases h2 : 1 ≤ y
      · have d2 : decide (1 ≤ y) = true := decide_eq_true h2
        by_cases h3 : y ≤ 1073741824
        · have d3 : decide (y ≤ 1073741824) = true := decide_eq_true h3
          go_enter Try.func98, Try.ntmps98
          go_wp2_with fail
          go_ret
          exact ⟨ret_bool (by simp [flOK]; omega), HB.out⟩
        · have d3 : decide (y ≤ 1073741824) = false := decide_eq_false h3
          go_enter Try.func98, Try.ntmps98
          go_wp2_with fail
          go_ret
          exact ⟨ret_bool (by simp [flOK]; omega), HB.out⟩
      · have d2 : decide (1 ≤ y) = false := decide_eq_false h2
        go_enter Try.func98, Try.ntmps98
        go_wp2_with fail
        go_ret
        exact ⟨ret_bool (by simp [flOK]; omega), HB.out⟩
    · have d1 : decide (x ≤ 10000) = false := decide_eq_false h1
      go_enter Try.func98, Try.ntmps98
      go_wp2_with fail
      go_ret
      exact ⟨ret_bool (by simp [flOK]; omega), HB.out⟩
  · have d0 : decide (1 ≤ x) = false := decide_eq_false h0
    go_enter Try.func98, Try.ntmps98
    go_wp2_with fail
    go_ret
    exact ⟨ret_bool (by simp [flOK]; omega), HB.out⟩
set_option maxHeartbeats 2000000 in
theorem spec_any (w : World) (l s p : Int) : Calls Try.prog 95 #[.agg #[.int .i64 l, .int .i64 s, .int .i64 p]] w fun e w' => e = .returned (.bool (spOK l s p)) ∧ Below w.heap.size w w' := by
  have HB := Aside0.mk (below_alloc (Below.refl w.heap.size w) (.cells #[.int .i64 l, .int .i64 s, .int .i64 p] 24))
  have b0 := Blk.new w [.int .i64 l, .int .i64 s, .int .i64 p] 24
  have c4 := b0.at_ (i := 0) rfl
  have c5 := b0.at_ (i := 1) rfl
  have c6 := b0.at_ (i := 2) rfl
  clear b0
  by_cases h0 : 1 ≤ l
  · have d0 : decide (1 ≤ l) = true := decide_eq_true h0
    by_cases h1 : l ≤ 16
    · have d1 : decide (l ≤ 16) = true := decide_eq_true h1
      by_cases h2 : 0 ≤ s
      · have d2 : decide (0 ≤ s) = true := decide_eq_true h2
        by_cases h3 : s ≤ 1073741824
        · have d3 : decide (s ≤ 1073741824) = true := decide_eq_true h3
          by_cases h4 : 0 ≤ p
          · have d4 : decide (0 ≤ p) = true := decide_eq_true h4
            by_cases h5 : p ≤ 10000
            · have d5 : decide (p ≤ 10000) = true := decide_eq_true h5
              go_enter Try.func95, Try.ntmps95
              go_wp2_with fail
              go_ret
              exact ⟨ret_bool (by simp [spOK]; omega), HB.out⟩
            · have d5 : decide (p ≤ 10000) = false := decide_eq_false h5
              go_enter Try.func95, Try.ntmps95
              go_wp2_with fail
              go_ret
              exact ⟨ret_bool (by simp [spOK]; omega), HB.out⟩
          · have d4 : decide (0 ≤ p) = false := decide_eq_false h4
            go_enter Try.func95, Try.ntmps95
            go_wp2_with fail
            go_ret
            exact ⟨ret_bool (by simp [spOK]; omega), HB.out⟩
        · have d3 : decide (s ≤ 1073741824) = false := decide_eq_false h3
          go_enter Try.func95, Try.ntmps95
          go_wp2_with fail
          go_ret
          exact ⟨ret_bool (by simp [spOK]; omega), HB.out⟩
      · have d2 : decide (0 ≤ s) = false := decide_eq_false h2
        go_enter Try.func95, Try.ntmps95
        go_wp2_with fail
        go_ret
        exact ⟨ret_bool (by simp [spOK]; omega), HB.out⟩
    · have d1 : decide (l ≤ 16) = false := decide_eq_false h1
      go_enter Try.func95, Try.ntmps95
      go_wp2_with fail
      go_ret
      exact ⟨ret_bool (by simp [spOK]; omega), HB.out⟩
  · have d0 : decide (1 ≤ l) = false := decide_eq_false h0
    go_enter Try.func95, Try.ntmps95
    go_wp2_with fail
    go_ret
    exact ⟨ret_bool (by simp [spOK]; omega), HB.out⟩
end Go.Proofs.Ythkfahkkcjagdaa
end
section
namespace Go.Proofs.Ythkfahkkcjagdaa
open Go.RowKit Go.Proofs.YthkfahkkcjagdaaW.PrintWords Go.Proofs.YthkfahkkcjagdaaW.PrintMore Go.Proofs.YthkfahkkcjagdaaW.PrintLast

theorem bad_any (w : World) (k0 k1 k2 k3 x y : Int) : Calls Try.prog 97 #[.agg #[.int .u8 k0, .int .u8 k1, .int .u8 k2, .int .u8 k3, .int .i64 x, .int .i64 y]] w fun e w' => e = .returned (.bool (!flOK ⟨k0, k1, k2, k3, x, y⟩)) ∧ Below w.heap.size w w' := by
  have HB := Aside0.mk (below_alloc (Below.refl w.heap.size w) (.cells #[.int .u8 k0, .int .u8 k1, .int .u8 k2, .int .u8 k3, .int .i64 x, .int .i64 y] 44))
  have b0 := Blk.new w [.int .u8 k0, .int .u8 k1, .int .u8 k2, .int .u8 k3, .int .i64 x, .int .i64 y] 44
  have c0 := b0.at_ (i := 0) rfl
  have c1 := b0.at_ (i := 1) rfl
  have c2 := b0.at_ (i := 2) rfl
  have c3 := b0.at_ (i := 3) rfl
  have c4 := b0.at_ (i := 4) rfl
  have c5 := b0.at_ (i := 5) rfl
  clear b0
  have hc := Aside0.mk (fun W => fleece_any W k0 k1 k2 k3 x y)
  go_enter Try.func97, Try.ntmps97
  go_wp2_with ((with_reducible refine (hc.out _).mono ?_); rintro e w' ⟨rfl, hb⟩; have HB2 := Aside0.mk (below_step HB.out hb); clear hb)
  go_ret
  exact ⟨rfl, HB2.out⟩

/-- The first index, from i on, at which a fleece is not in its limits; -1 if there is none. -/
def badFrom (i : Int) : List Fl → Int
  | [] => -1
  | x :: xs => if flOK x then badFrom (i + 1) xs else i
theorem badFrom_hit {i : Int} {x : Fl} {xs : List Fl} (h : flOK x = false) : badFrom i (x :: xs) = i := by unfold badFrom; rw [if_neg (by simp [h])]
theorem badFrom_miss {i : Int} {x : Fl} {xs : List Fl} (h : flOK x = true) : badFrom i (x :: xs) = badFrom (i + 1) xs := by
  rw [badFrom, if_pos h]
theorem badFrom_any : ∀ (xs : List Fl) (i : Int), 0 ≤ i → (0 ≤ badFrom i xs ↔ xs.all flOK = false) := by
  intro xs
  induction xs with
  | nil => intro i _; simp [badFrom]
  | cons x xs ih =>
    intro i h
    unfold badFrom
    by_cases hp : flOK x = true
    · simp only [hp, List.all_cons, Bool.true_and]
      simpa [hp] using ih (i + 1) (by omega)
    · simp [hp, h]

theorem enter97 (args : Array Value) (W : World) : (callFunc 97 args).run Try.prog W = .ok (.enter 97 args) W := by kernel_rfl
set_option maxHeartbeats 2000000 in
theorem findBad_any (w : World) (A : Option Addr) (c : Nat) (xs : List Fl) (h : kF.C w A xs.length xs) :
    Calls Try.prog 124 #[.slice A xs.length c, .func (.func 97) #[] #[]] w fun e w' => e = .returned (.int .i64 (badFrom 0 xs)) ∧ Below w.heap.size w w' := by
  have hl := Kd.C_max h
  have hen := enter97
  have HR := Aside0.mk h; clear h
  have HP := Aside0.mk bad_any
  go_enter Try.func124, Try.ntmps124
  go_wp2_with fail
  go_loopw [8] (fun v wr => ∃ i : Int, v = .int .i64 i ∧ 0 ≤ i ∧ i ≤ xs.length ∧ Aside0 (badFrom i (xs.drop i.toNat) = badFrom 0 xs) ∧ Aside0 (Below w.heap.size w wr)) (fun v _ => xs.length - (intOf v).toNat)
  case atStart => exact ⟨0, rfl, by omega, by omega, ⟨rfl⟩, ⟨Below.refl _ _⟩⟩
  case round =>
    obtain ⟨i, rfl, h0, h1, he, hb⟩ := hrel
    by_cases hlt : i < xs.length
    · obtain ⟨ad, e1, g0, g1, g2, g3, g4, g5⟩ := at_F (Kd.C_below HR.out hb.out) i h0 hlt
      subst e1
      have hdr := dropP xs fl0 i h0 hlt
      change xs.drop i.toNat = rdF xs i :: _ at hdr
      have HDR := Aside0.mk hdr; clear hdr
      obtain ⟨f, hf⟩ : ∃ z, z = rdF xs i := ⟨_, rfl⟩
      rw [← hf] at g0 g1 g2 g3 g4 g5
      have HF := Aside0.mk hf; clear hf
      obtain ⟨k0, k1, k2, k3, x, y⟩ := f
      dsimp only at g0 g1 g2 g3 g4 g5
      go_wp2_with ((with_reducible refine (HP.out _ _ _ _ _ _ _).mono ?_); rintro e5 w5 ⟨rfl, hb5⟩; have HB5 := Aside0.mk (hb.out.trans (hb5.mono hb.out.size)); clear hb5)
      · rename_i hbad
        go_ret
        have := he.out
        rw [HDR.out, ← HF.out, badFrom_hit (by simpa using hbad)] at this
        exact ⟨ret_int this, HB5.out⟩
      · rename_i hbad
        go_roundw
        case rel =>
          have := he.out
          rw [HDR.out, ← HF.out, badFrom_miss (by simpa using hbad)] at this
          exact ⟨i + 1, by go_num, by omega, by omega, ⟨this⟩, HB5⟩
        case measure => simp [intOf]; omega
    · go_wp2_with fail
      go_ret
      have := he.out
      rw [show i.toNat = xs.length by omega, List.drop_length] at this
      exact ⟨ret_int this, hb.out⟩
theorem anyBad_any (w : World) (A : Option Addr) (c : Nat) (xs : List Fl) (h : kF.C w A xs.length xs) :
    Calls Try.prog 96 #[.slice A xs.length c, .func (.func 97) #[] #[]] w fun e w' => e = .returned (.bool (!xs.all flOK)) ∧ Below w.heap.size w w' := by
  have hi := Aside0.mk (findBad_any w A c xs h)
  clear h
  go_enter Try.func96, Try.ntmps96
  go_wp2_with ((with_reducible refine hi.out.mono ?_); rintro e5 w5 ⟨rfl, hb5⟩)
  go_ret
  have := badFrom_any xs 0 (by omega)
  exact ⟨ret_bool (by rw [Bool.eq_iff_iff]; simp [this]), hb5⟩

/-! ### The comparison of two kinds and two fleeces -/
/-- The comparison of two kinds. -/
def kcmp (a b : Fl) : Int :=
  if a.k0 = b.k0 then if a.k1 = b.k1 then if a.k2 = b.k2 then if a.k3 = b.k3 then 0
  else if a.k3 < b.k3 then -1 else 1
  else if a.k2 < b.k2 then -1 else 1
  else if a.k1 < b.k1 then -1 else 1
  else if a.k0 < b.k0 then -1 else 1
/-- The bytes of a kind are bytes. -/
def kOK (f : Fl) : Prop := (0 ≤ f.k0 ∧ f.k0 ≤ 255) ∧ (0 ≤ f.k1 ∧ f.k1 ≤ 255) ∧ (0 ≤ f.k2 ∧ f.k2 ≤ 255) ∧ 0 ≤ f.k3 ∧ f.k3 ≤ 255
theorem u8_eq {x y : Int} (hx : 0 ≤ x ∧ x ≤ 255) (hy : 0 ≤ y ∧ y ≤ 255) : (x.toNat.toUInt8 = y.toNat.toUInt8) ↔ x = y := by
  constructor
  · intro h
    have := congrArg UInt8.toNat h
    simp only [Nat.toUInt8, UInt8.toNat_ofNat'] at this
    omega
  · rintro rfl; rfl
theorem u8_lt {x y : Int} (hx : 0 ≤ x ∧ x ≤ 255) (hy : 0 ≤ y ∧ y ≤ 255) : (x.toNat.toUInt8 < y.toNat.toUInt8) ↔ x < y := by
  rw [UInt8.lt_iff_toNat_lt]
  simp only [Nat.toUInt8, UInt8.toNat_ofNat']
  omega
theorem cmp_bytes (a b : Fl) (ha : kOK a) (hb : kOK b) : Extern.BytealgCompare.cmp ⟨(Lib.bytesOf [a.k0, a.k1, a.k2, a.k3]).toArray⟩ ⟨(Lib.bytesOf [b.k0, b.k1, b.k2, b.k3]).toArray⟩ = kcmp a b := by
  obtain ⟨a0, a1, a2, a3⟩ := ha
  obtain ⟨b0, b1, b2, b3⟩ := hb
  have e0 := u8_eq a0 b0
  have e1 := u8_eq a1 b1
  have e2 := u8_eq a2 b2
  have e3 := u8_eq a3 b3
  have l0 := u8_lt a0 b0
  have l1 := u8_lt a1 b1
  have l2 := u8_lt a2 b2
  have l3 := u8_lt a3 b3
  unfold Extern.BytealgCompare.cmp kcmp
  have hr : List.range (min (ByteArray.mk (Lib.bytesOf [a.k0, a.k1, a.k2, a.k3]).toArray).size (ByteArray.mk (Lib.bytesOf [b.k0, b.k1, b.k2, b.k3]).toArray).size) = [0, 1, 2, 3] := rfl
  rw [hr]
  have g : ∀ f : Fl, (ByteArray.mk (Lib.bytesOf [f.k0, f.k1, f.k2, f.k3]).toArray)[0]! = f.k0.toNat.toUInt8 ∧ (ByteArray.mk (Lib.bytesOf [f.k0, f.k1, f.k2, f.k3]).toArray)[1]! = f.k1.toNat.toUInt8 ∧ (ByteArray.mk (Lib.bytesOf [f.k0, f.k1, f.k2, f.k3]).toArray)[2]! = f.k2.toNat.toUInt8 ∧ (ByteArray.mk (Lib.bytesOf [f.k0, f.k1, f.k2, f.k3]).toArray)[3]! = f.k3.toNat.toUInt8 := fun f => ⟨rfl, rfl, rfl, rfl⟩
  have ga := g a
  have gb := g b
  have sz : ∀ f : Fl, (ByteArray.mk (Lib.bytesOf [f.k0, f.k1, f.k2, f.k3]).toArray).size = 4 := fun f => rfl
  simp only [List.find?_cons, List.find?_nil, ga.1, ga.2.1, ga.2.2.1, ga.2.2.2, gb.1, gb.2.1, gb.2.2.1, gb.2.2.2, sz]
  by_cases h0 : a.k0 = b.k0
  · rw [if_pos h0, show (a.k0.toNat.toUInt8 != b.k0.toNat.toUInt8) = false by simp [e0.2 h0]]
    by_cases h1 : a.k1 = b.k1
    · rw [if_pos h1, show (a.k1.toNat.toUInt8 != b.k1.toNat.toUInt8) = false by simp [e1.2 h1]]
      by_cases h2 : a.k2 = b.k2
      · rw [if_pos h2, show (a.k2.toNat.toUInt8 != b.k2.toNat.toUInt8) = false by simp [e2.2 h2]]
        by_cases h3 : a.k3 = b.k3
        · rw [if_pos h3, show (a.k3.toNat.toUInt8 != b.k3.toNat.toUInt8) = false by simp [e3.2 h3]]
          rfl
        · rw [if_neg h3, show (a.k3.toNat.toUInt8 != b.k3.toNat.toUInt8) = true by simp [e3, h3]]
          simp only [ga.2.2.2, gb.2.2.2, l3]
      · rw [if_neg h2, show (a.k2.toNat.toUInt8 != b.k2.toNat.toUInt8) = true by simp [e2, h2]]
        simp only [ga.2.2.1, gb.2.2.1, l2]
    · rw [if_neg h1, show (a.k1.toNat.toUInt8 != b.k1.toNat.toUInt8) = true by simp [e1, h1]]
      simp only [ga.2.1, gb.2.1, l1]
  · rw [if_neg h0, show (a.k0.toNat.toUInt8 != b.k0.toNat.toUInt8) = true by simp [e0, h0]]
    simp only [ga.1, gb.1, l0]

theorem run_loadKind {w : World} {P : Program} {b : Nat} {f : Fl} (h : ∀ j x, [f.k0, f.k1, f.k2, f.k3][j]? = some x → w.cell? ⟨b, j, none⟩ = some (.int .u8 x)) :
    (Extern.Bytes.bytesOf (.slice (some ⟨b, 0, none⟩) 4 4)).run P w = .ok ⟨(Lib.bytesOf [f.k0, f.k1, f.k2, f.k3]).toArray⟩ w := by
  have hl := Lib.run_loadBytesX (P := P) w [f.k0, f.k1, f.k2, f.k3] ⟨b, 0, none⟩ .empty (fun j x hj => by
    have e : (⟨b, 0, none⟩ : Addr).add j = ⟨b, j, none⟩ := by unfold Addr.add; split <;> simp_all
    rw [e]; exact h j x hj)
  have he : (⟨ByteArray.empty.data ++ (Lib.bytesOf [f.k0, f.k1, f.k2, f.k3]).toArray⟩ : ByteArray) = ⟨(Lib.bytesOf [f.k0, f.k1, f.k2, f.k3]).toArray⟩ := by
    apply ByteArray.ext
    show (#[] : Array UInt8) ++ _ = _
    simp
  rw [he] at hl
  exact hl

theorem run_cmp {w : World} {p q : Nat} {a b : Fl} (ha : kOK a) (hb : kOK b) (hp : ∀ j x, [a.k0, a.k1, a.k2, a.k3][j]? = some x → w.cell? ⟨p, j, none⟩ = some (.int .u8 x)) (hq : ∀ j x, [b.k0, b.k1, b.k2, b.k3][j]? = some x → w.cell? ⟨q, j, none⟩ = some (.int .u8 x)) :
    (callFunc 126 #[.slice (some ⟨p, 0, none⟩) 4 4, .slice (some ⟨q, 0, none⟩) 4 4]).run Try.prog w = .ok (.value (.int .i64 (kcmp a b))) w := by
  rw [run_callFunc_extern Try.func126 (by kernel_rfl) (by kernel_rfl) (by kernel_rfl) (e := Extern.BytealgCompare.compare) (by kernel_rfl)]
  have e : Extern.BytealgCompare.compare #[.slice (some ⟨p, 0, none⟩) 4 4, .slice (some ⟨q, 0, none⟩) 4 4] = (do let x ← Extern.Bytes.bytesOf (.slice (some ⟨p, 0, none⟩) 4 4); let y ← Extern.Bytes.bytesOf (.slice (some ⟨q, 0, none⟩) 4 4); pure (.int .i64 (Extern.BytealgCompare.cmp x y))) := rfl
  rw [e]
  simp only [Sem.run_bind, Sem.run_pure, run_loadKind hp, run_loadKind hq, Result.andThen]
  rw [cmp_bytes a b ha hb]

theorem compareB_any (w : World) (p q : Nat) (a b : Fl) (ha : kOK a) (hb : kOK b) (hp : ∀ j x, [a.k0, a.k1, a.k2, a.k3][j]? = some x → w.cell? ⟨p, j, none⟩ = some (.int .u8 x)) (hq : ∀ j x, [b.k0, b.k1, b.k2, b.k3][j]? = some x → w.cell? ⟨q, j, none⟩ = some (.int .u8 x)) :
    Calls Try.prog 102 #[.slice (some ⟨p, 0, none⟩) 4 4, .slice (some ⟨q, 0, none⟩) 4 4] w fun e w' => e = .returned (.int .i64 (kcmp a b)) ∧ w = w' := by
  have hr := run_cmp ha hb hp hq
  clear hp hq
  go_enter Try.func102, Try.ntmps102
  go_wp2_with fail
  go_ret
  exact ⟨rfl, rfl⟩

/-- The first that is not 0. -/
theorem or_any (w : World) (b : Nat) (x y : Int) (h : Blk w b [.int .i64 x, .int .i64 y] 3) :
    Calls Try.prog 101 #[.slice (some ⟨b, 0, none⟩) 2 2] w fun e w' => e = .returned (.int .i64 (if x = 0 then y else x)) ∧ w = w' := by
  have c0 := h.at_ (i := 0) rfl
  have c1 := h.at_ (i := 1) rfl
  clear h
  by_cases hx : x = 0
  · subst hx
    by_cases hy : y = 0
    · subst hy
      go_enter Try.func101, Try.ntmps101
      go_wp2_with fail
      refine wp_loop_rounds 3 ?_
      rw [rounds_succ]
      go_wp2_with fail
      rw [rounds_succ]
      go_wp2_with fail
      rw [rounds_succ]
      go_wp2_with fail
      go_ret
      exact ⟨rfl, rfl⟩
    · have hd2 : (y != 0) = true := by simp [hy]
      go_enter Try.func101, Try.ntmps101
      go_wp2_with fail
      refine wp_loop_rounds 2 ?_
      rw [rounds_succ]
      go_wp2_with fail
      rw [rounds_succ]
      go_wp2_with fail
      go_ret
      exact ⟨rfl, rfl⟩
  · have hd : (x != 0) = true := by simp [hx]
    have HE : Aside0 ((if x = 0 then y else x) = x) := ⟨by rw [if_neg hx]⟩
    go_enter Try.func101, Try.ntmps101
    go_wp2_with fail
    refine wp_loop_rounds 1 ?_
    rw [rounds_succ]
    go_wp2_with fail
    go_ret
    exact ⟨by first | rfl | exact ret_int HE.out.symm, rfl⟩
end Go.Proofs.Ythkfahkkcjagdaa
end
section
namespace Go.Proofs.Ythkfahkkcjagdaa
open Go.RowKit Go.Proofs.YthkfahkkcjagdaaW.PrintWords Go.Proofs.YthkfahkkcjagdaaW.PrintMore Go.Proofs.YthkfahkkcjagdaaW.PrintLast

/-- The order of two fleeces: by kind, then by diameter. -/
def fcmp (a b : Fl) : Int := if kcmp a b = 0 then cmpI a.mic b.mic else kcmp a b
def fcf (fs : List Fl) (x y : Int) : Int := fcmp (rdF fs x) (rdF fs y)
section
variable (w : World) (c0 c1 : Array Value) (t0 t1 : TypeId)
theorem h2_0 : ((w.alloc (.cells c0 t0)).alloc (.cells c1 t1)).drew.heap[w.heap.size]? = some (.cells c0 t0 (0, 0)) := by
  show ((w.heap.push _).push _)[w.heap.size]? = _
  simp only [Array.getElem?_push, Array.size_push]
  repeat (first | rw [if_neg (by omega)] | rw [if_pos rfl] | rw [if_pos trivial])
theorem h2_1 : ((w.alloc (.cells c0 t0)).alloc (.cells c1 t1)).drew.heap[w.heap.size + 1]? = some (.cells c1 t1 (0, 0)) := by
  show ((w.heap.push _).push _)[w.heap.size + 1]? = _
  simp only [Array.getElem?_push, Array.size_push]
  repeat (first | rw [if_neg (by omega)] | rw [if_pos rfl] | rw [if_pos trivial])
theorem h2_b : Below w.heap.size w ((w.alloc (.cells c0 t0)).alloc (.cells c1 t1)).drew := below_drew (below_alloc (below_alloc (Below.refl _ _) _) _)
end

set_option maxHeartbeats 8000000 in
set_option maxRecDepth 100000 in
theorem fcmp_any (w : World) (A : Option Addr) (c b : Nat) (fs : List Fl) (h : kF.C w A fs.length fs) (hb : w.cell? ⟨b, 0, none⟩ = some (.slice A fs.length c)) (x y : Int) (hx : 0 ≤ x ∧ x < fs.length) (hy : 0 ≤ y ∧ y < fs.length) (kx : kOK (rdF fs x)) (ky : kOK (rdF fs y)) :
    Calls Try.prog 100 #[.int .i64 x, .int .i64 y, .pointer (some ⟨b, 0, none⟩)] w fun e w' => e = .returned (.int .i64 (fcf fs x y)) ∧ Below w.heap.size w w' := by
  obtain ⟨ad, e1, g0, g1, g2, g3, g4, g5⟩ := at_F h x hx.1 hx.2
  obtain ⟨ad2, e2, k0, k1, k2, k3, k4, k5⟩ := at_F h y hy.1 hy.2
  subst e1
  cases e2
  clear h
  obtain ⟨hx1, hx2⟩ := hx
  obtain ⟨hy1, hy2⟩ := hy
  have HF : Aside0 (fcf fs x y = fcmp (rdF fs x) (rdF fs y)) := ⟨rfl⟩
  obtain ⟨p, hp⟩ : ∃ z, z = rdF fs x := ⟨_, rfl⟩
  obtain ⟨q, hq⟩ : ∃ z, z = rdF fs y := ⟨_, rfl⟩
  rw [← hp] at g0 g1 g2 g3 g4 g5 kx
  rw [← hq] at k0 k1 k2 k3 k4 k5 ky
  have HPQ := Aside0.mk (And.intro hp hq)
  clear hp hq
  obtain ⟨p0, p1, p2, p3, p4, p5⟩ := p
  obtain ⟨q0, q1, q2, q3, q4, q5⟩ := q
  dsimp only at g0 g1 g2 g3 g4 g5 k0 k1 k2 k3 k4 k5
  have al : ∀ {a : Addr} {v : Value} {W : World}, W.cell? a = some v → ∀ o, (W.alloc o).cell? a = some v := fun {a v W} h o => (World.cell?_alloc_lt W o a (World.block_lt_of_cell? W a h)).trans h
  have hba := al hb
  have hbb := fun o => al (hba o)
  have g0a := al g0
  have g0b := fun o => al (g0a o)
  have g1a := al g1
  have g1b := fun o => al (g1a o)
  have g2a := al g2
  have g2b := fun o => al (g2a o)
  have g3a := al g3
  have g3b := fun o => al (g3a o)
  have g4a := al g4
  have g4b := fun o => al (g4a o)
  have g5a := al g5
  have g5b := fun o => al (g5a o)
  have k0a := al k0
  have k0b := fun o => al (k0a o)
  have k1a := al k1
  have k1b := fun o => al (k1a o)
  have k2a := al k2
  have k2b := fun o => al (k2a o)
  have k3a := al k3
  have k3b := fun o => al (k3a o)
  have k4a := al k4
  have k4b := fun o => al (k4a o)
  have k5a := al k5
  have k5b := fun o => al (k5a o)
  clear al
  have HCB := Aside0.mk (fun W (p q : Nat) (hp : Blk W p (fcs ⟨p0, p1, p2, p3, p4, p5⟩) 44) (hq : Blk W q (fcs ⟨q0, q1, q2, q3, q4, q5⟩) 44) => compareB_any W p q ⟨p0, p1, p2, p3, p4, p5⟩ ⟨q0, q1, q2, q3, q4, q5⟩ kx ky (by
    intro j x hj
    match j, hj with
    | 0, hj => cases hj; exact hp.at_ (i := 0) rfl
    | 1, hj => cases hj; exact hp.at_ (i := 1) rfl
    | 2, hj => cases hj; exact hp.at_ (i := 2) rfl
    | 3, hj => cases hj; exact hp.at_ (i := 3) rfl
    | j + 4, hj => simp at hj) (by
    intro j x hj
    match j, hj with
    | 0, hj => cases hj; exact hq.at_ (i := 0) rfl
    | 1, hj => cases hj; exact hq.at_ (i := 1) rfl
    | 2, hj => cases hj; exact hq.at_ (i := 2) rfl
    | 3, hj => cases hj; exact hq.at_ (i := 3) rfl
    | j + 4, hj => simp at hj))
  clear kx ky
  go_enter Try.func100, Try.ntmps100
  go_upto_region 1 with fail
  go_cut [6, 7] from 8 to 15 (fun a b w1 => ∃ p q : Nat, a = .pointer (some ⟨p, 0, none⟩) ∧ b = .pointer (some ⟨q, 0, none⟩) ∧ Aside0 (w1.heap[p]? = some (.cells (fcs ⟨p0, p1, p2, p3, p4, p5⟩).toArray 44 (0, 0)) ∧ w1.heap[q]? = some (.cells (fcs ⟨q0, q1, q2, q3, q4, q5⟩).toArray 44 (0, 0)) ∧ Below w.heap.size w w1))
  case first =>
    go_region
    all_goals go_wp2_with fail
    all_goals go_meet
    all_goals (case rel => exact ⟨_, _, rfl, rfl, ⟨by first | exact h2_0 .. | exact h2_1 .., by first | exact h2_0 .. | exact h2_1 .., h2_b ..⟩⟩)
  case rest =>
  obtain ⟨p, q, rfl, rfl, ⟨hp, hq, hbw⟩⟩ := hcut
  have B := Aside0.mk hbw; clear hbw
  have bp : Blk wc p (fcs ⟨p0, p1, p2, p3, p4, p5⟩) 44 := hp
  have bq : Blk wc q (fcs ⟨q0, q1, q2, q3, q4, q5⟩) 44 := hq
  have f1 := bp.at_ (i := 4) rfl
  have f3 := bq.at_ (i := 4) rfl
  have BPQ := Aside0.mk (And.intro bp bq)
  clear bp bq hp hq g0 g1 g2 g3 g4 g5 k0 k1 k2 k3 k4 k5 hb hba hbb g0a g0b g1a g1b g2a g2b g3a g3b g4a g4b g5a g5b k0a k0b k1a k1b k2a k2b k3a k3b k4a k4b k5a k5b
  have HC := Aside0.mk (fun W => compare_any W p4 q4)
  obtain ⟨z, hz⟩ : ∃ z, z = fcmp ⟨p0, p1, p2, p3, p4, p5⟩ ⟨q0, q1, q2, q3, q4, q5⟩ := ⟨_, rfl⟩
  obtain ⟨kz, hkz⟩ : ∃ z, z = kcmp ⟨p0, p1, p2, p3, p4, p5⟩ ⟨q0, q1, q2, q3, q4, q5⟩ := ⟨_, rfl⟩
  have hz2 : z = if kz = 0 then cmpI p4 q4 else kz := by rw [hz, hkz]; rfl
  have HZ := Aside0.mk (show fcf fs x y = z by rw [HF.out, ← HPQ.out.1, ← HPQ.out.2, hz])
  rw [← hkz] at HCB
  have HO := Aside0.mk (fun W b (h : Blk W b [.int .i64 kz, .int .i64 (cmpI p4 q4)] 3) => by have := or_any W b kz (cmpI p4 q4) h; rw [← hz2] at this; exact this)
  clear hz hkz hz2 HF HPQ
  go_upto_region 1 with fail
  go_region_held_law (fun W => W.cell? ⟨p, 4, none⟩ = some (.int .i64 p4) ∧ W.cell? ⟨q, 4, none⟩ = some (.int .i64 q4)) (go_keep)
    (first
      | (refine (HCB.out wc.drew p q BPQ.out.1 BPQ.out.2).mono ?_; rintro e w' ⟨rfl, rfl⟩)
      | (refine (HC.out _).mono ?_; rintro e w' ⟨rfl, rfl⟩)
      | (refine (HO.out _ _ (Blk.new wc.drew [.int .i64 kz, .int .i64 (cmpI p4 q4)] 3)).mono ?_; rintro e w' ⟨rfl, rfl⟩))
  all_goals go_wp2_with fail
  all_goals go_ret
  all_goals exact ⟨ret_int HZ.out.symm, below_step B.out (below_alloc (below_drew (Below.refl _ _)) _)⟩
end Go.Proofs.Ythkfahkkcjagdaa
end
section
namespace Go.Proofs.Ythkfahkkcjagdaa
open Go.RowKit Go.Proofs.YthkfahkkcjagdaaW.PrintWords Go.Proofs.YthkfahkkcjagdaaW.PrintMore Go.Proofs.YthkfahkkcjagdaaW.PrintLast

/-- The fleece at a place of the order. -/
def sF (fs : List Fl) (ord : List Int) (i : Nat) : Fl := rdF fs (ord.getD i 0)
/-- A table in memory. -/
structure TB (w : World) (bt o : Nat) (A : Option Addr) (cf : Nat) (fs : List Fl) (ord : List Int) (cv ev : Value) : Prop where
  t : Blk w bt [.slice A fs.length cf, .slice (some ⟨o, 0, none⟩) fs.length fs.length, cv, ev] 104
  o : Blk w o (ints ord) 3
  f : kF.C w A fs.length fs
  ol : ord.length = fs.length
  om : ∀ x ∈ ord, 0 ≤ x ∧ x < fs.length
theorem TB.below {w w1 : World} {bt o : Nat} {A : Option Addr} {cf : Nat} {fs : List Fl} {ord : List Int} {cv ev : Value} (h : TB w bt o A cf fs ord cv ev) (b : Below w.heap.size w w1) : TB w1 bt o A cf fs ord cv ev :=
  ⟨h.t.below b, h.o.below b, Kd.C_below h.f b, h.ol, h.om⟩
theorem TB.kp {S : Nat → Prop} {w w1 : World} {bt o : Nat} {A : Option Addr} {cf : Nat} {fs : List Fl} {ord : List Int} {cv ev : Value} (h : TB w bt o A cf fs ord cv ev) (k : Kp S w w1) (h1 : ¬ S bt) (h2 : ¬ S o) (h3 : 0 < fs.length → ∀ ad, A = some ad → ¬ S ad.block) : TB w1 bt o A cf fs ord cv ev :=
  ⟨h.t.kp k h1, h.o.kp k h2, CF_kp h.f k fun hp ad e => ⟨CF_lt h.f hp ad e, h3 hp ad e⟩, h.ol, h.om⟩
theorem getD_mem {l : List Int} {i : Nat} (h : i < l.length) : l.getD i 0 ∈ l := by
  rw [List.getD_eq_getElem?_getD, List.getElem?_eq_getElem h]
  exact List.getElem_mem h

set_option maxHeartbeats 8000000 in
set_option maxRecDepth 100000 in
theorem at_any (w : World) (bt o : Nat) (A : Option Addr) (cf : Nat) (fs : List Fl) (ord : List Int) (cv ev : Value) (h : TB w bt o A cf fs ord cv ev) (i : Int) (h0 : 0 ≤ i) (h1 : i < fs.length) :
    Calls Try.prog 105 #[.pointer (some ⟨bt, 0, none⟩), .int .i64 i] w fun e w' => e = .returned (.agg (fcs (sF fs ord i.toNat)).toArray) ∧ Below w.heap.size w w' := by
  have hb0 := below_alloc (Below.refl w.heap.size w) (.cells #[.int .u8 0, .int .u8 0, .int .u8 0, .int .u8 0, .int .i64 0, .int .i64 0] 44)
  have HT := Aside0.mk h
  have HB := Aside0.mk hb0
  have h2 := h.below hb0
  have hi : i.toNat < ord.length := by rw [h.ol]; omega
  have hm := h.om _ (getD_mem hi)
  have hx : w.cell? ⟨o, i.toNat, none⟩ = some (.int .i64 (ord.getD i.toNat 0)) := h.o.at_ (ints_get _ hi)
  have hxs : sF fs ord i.toNat = rdF fs (ord.getD i.toNat 0) := rfl
  obtain ⟨x, hxx⟩ : ∃ z, z = ord.getD i.toNat 0 := ⟨_, rfl⟩
  rw [← hxx] at hm hx hxs
  clear hxx hi
  obtain ⟨m0, m1⟩ := hm
  obtain ⟨ad, e1, g0, g1, g2, g3, g4, g5⟩ := at_F h.f x m0 m1
  subst e1
  rw [hxs]
  obtain ⟨f, hf⟩ : ∃ z, z = rdF fs x := ⟨_, rfl⟩
  rw [← hf] at g0 g1 g2 g3 g4 g5
  rw [← hf]
  clear hxs hf
  obtain ⟨p0, p1, p2, p3, p4, p5⟩ := f
  dsimp only at g0 g1 g2 g3 g4 g5
  have c0 := h.t.at_ (i := 0) rfl
  have c1 := h.t.at_ (i := 1) rfl
  clear h h2
  have al : ∀ {a : Addr} {v : Value}, w.cell? a = some v → (w.alloc (.cells #[.int .u8 0, .int .u8 0, .int .u8 0, .int .u8 0, .int .i64 0, .int .i64 0] 44)).cell? a = some v := fun {a v} h => (World.cell?_alloc_lt w _ a (World.block_lt_of_cell? w a h)).trans h
  have c0 := al c0
  have c1 := al c1
  have hx := al hx
  have g0 := al g0
  have g1 := al g1
  have g2 := al g2
  have g3 := al g3
  have g4 := al g4
  have g5 := al g5
  clear al hb0
  have BN := Blk.new w [.int .u8 0, .int .u8 0, .int .u8 0, .int .u8 0, .int .i64 0, .int .i64 0] 44
  have hlt := BN.lt
  obtain ⟨w1, hw1⟩ : ∃ z, z = w.alloc (.cells #[.int .u8 0, .int .u8 0, .int .u8 0, .int .u8 0, .int .i64 0, .int .i64 0] 44) := ⟨_, rfl⟩
  have fr := BN.free
  have HBN := Aside0.mk BN; clear BN
  go_enter Try.func105, Try.ntmps105
  go_upto_region 1 with fail
  go_region_held_law (fun W => W.cell? ⟨bt, 0, none⟩ = some (.slice (some ad) fs.length cf) ∧ W.cell? ⟨bt, 1, none⟩ = some (.slice (some ⟨o, 0, none⟩) fs.length fs.length) ∧ W.cell? ⟨o, i.toNat, none⟩ = some (.int .i64 x) ∧ W.cell? (ad.add (x.toNat * 6)) = some (.int .u8 p0) ∧ W.cell? ⟨(ad.add (x.toNat * 6)).block, (ad.add (x.toNat * 6)).off + 1, none⟩ = some (.int .u8 p1) ∧ W.cell? ⟨(ad.add (x.toNat * 6)).block, (ad.add (x.toNat * 6)).off + 2, none⟩ = some (.int .u8 p2) ∧ W.cell? ⟨(ad.add (x.toNat * 6)).block, (ad.add (x.toNat * 6)).off + 3, none⟩ = some (.int .u8 p3) ∧ W.cell? ⟨(ad.add (x.toNat * 6)).block, (ad.add (x.toNat * 6)).off + 4, none⟩ = some (.int .i64 p4) ∧ W.cell? ⟨(ad.add (x.toNat * 6)).block, (ad.add (x.toNat * 6)).off + 5, none⟩ = some (.int .i64 p5)) (go_keep) (fail)
  all_goals go_wp2_with fail
  clear g0 g1 g2 g3 g4 g5 c0 c1 hx fr
  (try simp only [Exit.inBlock, Exit.then])
  refine bodyPost_ret (v := .agg #[.int .u8 p0, .int .u8 p1, .int .u8 p2, .int .u8 p3, .int .i64 p4, .int .i64 p5]) (results_cell_row rfl _ _ w.heap.size 44 #[.int .u8 p0, .int .u8 p1, .int .u8 p2, .int .u8 p3, .int .i64 p4, .int .i64 p5] (0, 0) _ rfl ?_ Try.underlying44 rfl (by kernel_rfl)) rfl ?_
  · exact heap_alloc_new w _
  · exact ⟨rfl, below_drew (below_alloc (Below.refl _ _) _)⟩
end Go.Proofs.Ythkfahkkcjagdaa
end
section
namespace Go.Proofs.Ythkfahkkcjagdaa

def massD (s : Nat → Fl) (i : Nat) : Nat → Int
  | 0 => 0
  | d + 1 => massD s i d + (s (i + d)).gr
def distI (a b : Int) : Int := if a ≤ b then b - a else a - b
/-- What the first d fleeces from i on cost about the centre m. -/
def costD (s : Nat → Fl) (i : Nat) (m : Int) : Nat → Int
  | 0 => 0
  | d + 1 => costD s i m d + (s (i + d)).gr * distI m (s (i + d)).mic
def sameK (a b : Fl) : Bool := decide (a.k0 = b.k0 ∧ a.k1 = b.k1 ∧ a.k2 = b.k2 ∧ a.k3 = b.k3)
/-- One kind, and within the spread. -/
def okR (s : Nat → Fl) (p : Int) (i : Nat) : Nat → Bool
  | 0 => true
  | d + 1 => okR s p i d && (sameK (s i) (s (i + d)) && decide ((s (i + d)).mic - (s i).mic ≤ p))
/-- The least place from c on where the mass up to it is at least half of M. -/
def medF (s : Nat → Fl) (i : Nat) (M : Int) : Nat → Nat → Nat
  | 0, c => c
  | k + 1, c => if 2 * massD s i (c + 1) < M then medF s i M k (c + 1) else c
def med (s : Nat → Fl) (i d : Nat) : Nat := medF s i (massD s i d) d 0
def cen (s : Nat → Fl) (i d : Nat) : Int := (s (i + med s i d)).mic
/-- What the run of d fleeces from i on costs as a line, if it may be one. -/
def cO (s : Nat → Fl) (least p : Int) (i d : Nat) : Option Int := if okR s p i d = true ∧ least ≤ massD s i d then some (costD s i (cen s i d) d) else none

/-- The numbers of the first n fleeces are in their limits. -/
def SOK (s : Nat → Fl) (n : Nat) : Prop := ∀ k, k < n → (1 ≤ (s k).mic ∧ (s k).mic ≤ 10000) ∧ 1 ≤ (s k).gr ∧ (s k).gr ≤ 1073741824
/-- Within a kind the diameters do not fall. -/
def SRT (s : Nat → Fl) (n : Nat) : Prop := ∀ a b, a < b → b < n → sameK (s a) (s b) = true → (s a).mic ≤ (s b).mic

section
variable {s : Nat → Fl} {n : Nat}
theorem sameK_trans {a b c : Fl} (h : sameK a b = true) (k : sameK a c = true) : sameK b c = true := by
  unfold sameK at *; simp only [decide_eq_true_eq] at *; omega
theorem okR_pre {p : Int} {i : Nat} : ∀ {d e : Nat}, e ≤ d → okR s p i d = true → okR s p i e = true
  | 0, e, h, k => by rw [show e = 0 by omega]; rfl
  | d + 1, e, h, k => by
    rcases Nat.lt_or_ge e (d + 1) with h1 | h1
    · unfold okR at k
      rw [Bool.and_eq_true] at k
      exact okR_pre (by omega) k.1
    · rwa [show e = d + 1 by omega]
theorem okR_at {p : Int} {i d k : Nat} (h : okR s p i d = true) (hk : k < d) : sameK (s i) (s (i + k)) = true ∧ (s (i + k)).mic - (s i).mic ≤ p := by
  have := okR_pre (show k + 1 ≤ d by omega) h
  unfold okR at this
  simp only [Bool.and_eq_true, decide_eq_true_eq] at this
  exact this.2
theorem run_mono {p : Int} {i d : Nat} (hs : SRT s n) (hd : i + d ≤ n) (h : okR s p i d = true) {a b : Nat} (hab : a ≤ b) (hb : b < d) : (s (i + a)).mic ≤ (s (i + b)).mic := by
  rcases Nat.lt_or_ge a b with h1 | h1
  · exact hs _ _ (by omega) (by omega) (sameK_trans (okR_at h (by omega)).1 (okR_at h hb).1)
  · rw [show a = b by omega]; exact Int.le_refl _
theorem massD_bd (h : SOK s n) (i : Nat) : ∀ d, i + d ≤ n → (d : Int) ≤ massD s i d ∧ massD s i d ≤ d * 1073741824
  | 0, _ => by simp [massD]
  | d + 1, hd => by
    have := massD_bd h i d (by omega)
    have := h (i + d) (by omega)
    unfold massD
    omega
theorem massD_lt (h : SOK s n) (i : Nat) {a b : Nat} (hab : a < b) (hb : i + b ≤ n) : massD s i a < massD s i b := by
  induction b with
  | zero => omega
  | succ b ih =>
    have h1 := h (i + b) (by omega)
    show massD s i a < massD s i b + (s (i + b)).gr
    rcases Nat.lt_or_ge a b with h2 | h2
    · have := ih h2 (by omega); omega
    · rw [show a = b by omega]; omega
theorem dist_bd {a b : Int} (ha : 1 ≤ a ∧ a ≤ 10000) (hb : 1 ≤ b ∧ b ≤ 10000) : 0 ≤ distI a b ∧ distI a b ≤ 9999 := by
  unfold distI; split <;> omega
theorem mul_bd {x y a b : Int} (hx : 0 ≤ x) (hxa : x ≤ a) (hy : 0 ≤ y) (hyb : y ≤ b) : 0 ≤ x * y ∧ x * y ≤ a * b :=
  ⟨Int.mul_nonneg hx hy, Int.mul_le_mul hxa hyb hy (Int.le_trans hx hxa)⟩
theorem costD_bd (h : SOK s n) (i : Nat) {m : Int} (hm : 1 ≤ m ∧ m ≤ 10000) : ∀ d, i + d ≤ n → 0 ≤ costD s i m d ∧ costD s i m d ≤ d * 10736344498176
  | 0, _ => by simp [costD]
  | d + 1, hd => by
    have h1 := costD_bd h i hm d (by omega)
    have h2 := h (i + d) (by omega)
    have h3 := dist_bd hm h2.1
    have h4 := mul_bd (x := (s (i + d)).gr) (a := 1073741824) (by omega) h2.2.2 h3.1 h3.2
    unfold costD
    omega
theorem costD_low {i : Nat} {a b : Int} (hab : a ≤ b) : ∀ d, (∀ k, k < d → (s (i + k)).mic ≤ a) → costD s i b d = costD s i a d + (b - a) * massD s i d
  | 0, _ => by simp [costD, massD]
  | d + 1, h => by
    have h1 := costD_low hab d (fun k hk => h k (by omega))
    have h2 := h d (by omega)
    unfold costD massD
    rw [h1]
    have e1 : distI b (s (i + d)).mic = b - (s (i + d)).mic := by unfold distI; split <;> omega
    have e2 : distI a (s (i + d)).mic = a - (s (i + d)).mic := by unfold distI; split <;> omega
    rw [e1, e2]
    grind
/-- The centre moves on to the next fleece: what is behind it costs more, the rest less. -/
theorem costD_step {i c : Nat} : ∀ e, (∀ k, k ≤ c → (s (i + k)).mic ≤ (s (i + c)).mic) → (s (i + c)).mic ≤ (s (i + (c + 1))).mic → (∀ k, c + 1 ≤ k → k < c + 1 + e → (s (i + (c + 1))).mic ≤ (s (i + k)).mic) →
    costD s i (s (i + (c + 1))).mic (c + 1 + e) = costD s i (s (i + c)).mic (c + 1 + e) + ((s (i + (c + 1))).mic - (s (i + c)).mic) * massD s i (c + 1) - ((s (i + (c + 1))).mic - (s (i + c)).mic) * (massD s i (c + 1 + e) - massD s i (c + 1))
  | 0, h1, h2, _ => by
    rw [Nat.add_zero, costD_low h2 (c + 1) (fun k hk => h1 k (by omega))]
    grind
  | e + 1, h1, h2, h3 => by
    have ih := costD_step e h1 h2 (fun k hk hk2 => h3 k hk (by omega))
    have h4 := h3 (c + 1 + e) (by omega) (by omega)
    rw [show c + 1 + (e + 1) = c + 1 + e + 1 by omega]
    have eM : massD s i (c + 1 + e + 1) = massD s i (c + 1 + e) + (s (i + (c + 1 + e))).gr := rfl
    have eC : ∀ m, costD s i m (c + 1 + e + 1) = costD s i m (c + 1 + e) + (s (i + (c + 1 + e))).gr * distI m (s (i + (c + 1 + e))).mic := fun m => rfl
    rw [eM, eC, eC, ih]
    have e1 : distI (s (i + (c + 1))).mic (s (i + (c + 1 + e))).mic = (s (i + (c + 1 + e))).mic - (s (i + (c + 1))).mic := by unfold distI; split <;> omega
    have e2 : distI (s (i + c)).mic (s (i + (c + 1 + e))).mic = (s (i + (c + 1 + e))).mic - (s (i + c)).mic := by unfold distI; split <;> omega
    rw [e1, e2]
    generalize massD s i (c + 1) = X
    generalize massD s i (c + 1 + e) = Y
    generalize costD s i (s (i + c)).mic (c + 1 + e) = Z
    generalize (s (i + (c + 1 + e))).gr = G
    generalize (s (i + (c + 1 + e))).mic = a
    generalize (s (i + (c + 1))).mic = b
    generalize (s (i + c)).mic = d
    clear ih h1 h2 h3 h4 e1 e2 eM eC
    grind
/-- What the median is. -/
theorem medF_spec {i : Nat} {M : Int} : ∀ (k c : Nat), (∀ a, a < c → 2 * massD s i (a + 1) < M) → M ≤ 2 * massD s i (c + k) →
    (∀ a, a < medF s i M k c → 2 * massD s i (a + 1) < M) ∧ (0 < k → M ≤ 2 * massD s i (medF s i M k c + 1)) ∧ medF s i M k c ≤ c + k ∧ (0 < k → medF s i M k c < c + k)
  | 0, c, h, _ => ⟨h, fun h => absurd h (by omega), by simp [medF], fun h => absurd h (by omega)⟩
  | k + 1, c, h, hM => by
    unfold medF
    by_cases h1 : 2 * massD s i (c + 1) < M
    · rw [if_pos h1]
      have h2 : ∀ a, a < c + 1 → 2 * massD s i (a + 1) < M := fun a ha => by
        rcases (show a < c ∨ a = c by omega) with h3 | rfl
        · exact h a h3
        · exact h1
      have := medF_spec k (c + 1) h2 (by rw [show c + 1 + k = c + (k + 1) by omega]; exact hM)
      have hk : 0 < k := by
        rcases Nat.eq_zero_or_pos k with rfl | hk
        · simp at hM; omega
        · exact hk
      exact ⟨this.1, fun _ => this.2.1 hk, by omega, fun _ => by have := this.2.2.2 hk; omega⟩
    · rw [if_neg h1]
      exact ⟨h, fun _ => by omega, by omega, fun _ => by omega⟩
theorem med_spec (h : SOK s n) {i d : Nat} (hd : 0 < d) (hn : i + d ≤ n) : (∀ a, a < med s i d → 2 * massD s i (a + 1) < massD s i d) ∧ massD s i d ≤ 2 * massD s i (med s i d + 1) ∧ med s i d < d := by
  have h0 := massD_bd h i d hn
  have := medF_spec (s := s) (i := i) (M := massD s i d) d 0 (fun a ha => by omega) (by rw [Nat.zero_add]; omega)
  exact ⟨this.1, this.2.1 hd, by have := this.2.2.2 hd; unfold med; omega⟩
theorem med_one (h : SOK s n) {i d c : Nat} (hd : 0 < d) (hn : i + d ≤ n) (_ : c < d) (h1 : ∀ a, a < c → 2 * massD s i (a + 1) < massD s i d) (h2 : massD s i d ≤ 2 * massD s i (c + 1)) : med s i d = c := by
  have h3 := med_spec h hd hn
  rcases Nat.lt_trichotomy (med s i d) c with h4 | h4 | h4
  · have := h1 _ h4; omega
  · exact h4
  · have := h3.1 _ h4; omega
/-- The median does not move back. -/
theorem med_mono (h : SOK s n) {i d : Nat} (hn : i + (d + 1) ≤ n) {a : Nat} (ha : a < med s i d) : 2 * massD s i (a + 1) < massD s i (d + 1) := by
  rcases Nat.eq_zero_or_pos d with rfl | hd
  · simp [med, medF] at ha
  · have := (med_spec h hd (by omega)).1 a ha
    have := massD_lt h i (show d < d + 1 by omega) hn
    omega
end
end Go.Proofs.Ythkfahkkcjagdaa
end
section
namespace Go.Proofs.Ythkfahkkcjagdaa
open Go.RowKit Go.Proofs.YthkfahkkcjagdaaW.PrintWords Go.Proofs.YthkfahkkcjagdaaW.PrintMore Go.Proofs.YthkfahkkcjagdaaW.PrintLast

/-- A cost, or never. -/
def pE : Option Int → Int
  | none => 4611686018427387904
  | some x => x
/-- The row of costs of the runs from i on when d fleeces were looked at; and that of centres. -/
def crow (s : Nat → Fl) (least p : Int) (n i d : Nat) : List Int := (List.range (n + 1)).map fun j => if i < j ∧ j ≤ i + d then pE (cO s least p i (j - i)) else 4611686018427387904
def erow (s : Nat → Fl) (n i d : Nat) : List Int := (List.range (n + 1)).map fun j => if i < j ∧ j ≤ i + d then cen s i (j - i) else 0
/-- How many fleeces from i on may be one run. -/
def runL (s : Nat → Fl) (p : Int) (i : Nat) : Nat → Nat
  | 0 => 0
  | k + 1 => if okR s p i (k + 1) = true then k + 1 else runL s p i k
def crowF (s : Nat → Fl) (least p : Int) (n i : Nat) : List Int := crow s least p n i (n - i)
def erowF (s : Nat → Fl) (p : Int) (n i : Nat) : List Int := erow s n i (runL s p i (n - i))
section
variable (s : Nat → Fl) (least p : Int) (n i d : Nat)
theorem crow_length : (crow s least p n i d).length = n + 1 := by simp [crow]
theorem erow_length : (erow s n i d).length = n + 1 := by simp [erow]
theorem range_map_get (f : Nat → Int) {m j : Nat} (h : j < m) : ((List.range m).map f).getD j 0 = f j := by
  rw [List.getD_eq_getElem?_getD, List.getElem?_map, List.getElem?_range h]; rfl
theorem crow_get {j : Nat} (h : j ≤ n) : (crow s least p n i d).getD j 0 = if i < j ∧ j ≤ i + d then pE (cO s least p i (j - i)) else 4611686018427387904 := range_map_get _ (by omega)
theorem map_set_range (f g : Nat → Int) (m k : Nat) (v : Int) (hk : k < m) (hg : g k = v) (h : ∀ j, j < m → j ≠ k → g j = f j) : ((List.range m).map f).set k v = (List.range m).map g := by
  refine List.ext_getElem? fun j => ?_
  rw [List.getElem?_set, List.getElem?_map, List.getElem?_map]
  by_cases hj : j < m
  · rw [List.getElem?_range hj]
    by_cases e : k = j
    · subst e
      rw [if_pos rfl, if_pos (by simpa using hj)]
      simp [hg]
    · rw [if_neg e]
      simp [h j hj (Ne.symm e)]
  · rw [List.getElem?_eq_none (by simp; omega)]
    split
    · rename_i e
      subst e
      rw [if_neg (by simp; omega)]
      rfl
    · rfl
theorem crow_set (hd : i + d < n) : (crow s least p n i d).set (i + d + 1) (pE (cO s least p i (d + 1))) = crow s least p n i (d + 1) := by
  unfold crow
  refine map_set_range _ _ _ _ _ (by omega) ?_ fun j hj hne => ?_
  · rw [if_pos (by omega), show i + d + 1 - i = d + 1 by omega]
  · by_cases h : i < j ∧ j ≤ i + d
    · rw [if_pos (by omega), if_pos h]
    · rw [if_neg (by omega), if_neg h]
theorem crow_none (h : cO s least p i (d + 1) = none) : crow s least p n i d = crow s least p n i (d + 1) := by
  unfold crow
  refine List.map_congr_left fun j _ => ?_
  by_cases h1 : i < j ∧ j ≤ i + d
  · rw [if_pos h1, if_pos (by omega)]
  · rw [if_neg h1]
    by_cases h2 : i < j ∧ j ≤ i + (d + 1)
    · rw [if_pos h2, show j - i = d + 1 by omega, h]; rfl
    · rw [if_neg h2]
theorem erow_set (hd : i + d < n) : (erow s n i d).set (i + d + 1) (cen s i (d + 1)) = erow s n i (d + 1) := by
  unfold erow
  refine map_set_range _ _ _ _ _ (by omega) ?_ fun j hj hne => ?_
  · rw [if_pos (by omega), show i + d + 1 - i = d + 1 by omega]
  · by_cases h : i < j ∧ j ≤ i + d
    · rw [if_pos (by omega), if_pos h]
    · rw [if_neg (by omega), if_neg h]
theorem crow_zero : crow s least p n i 0 = List.replicate (n + 1) 4611686018427387904 := by
  refine List.ext_getElem? fun j => ?_
  unfold crow
  rw [List.getElem?_map, List.getElem?_replicate]
  by_cases hj : j < n + 1
  · rw [List.getElem?_range hj, if_pos hj]
    simp
    omega
  · rw [if_neg hj, List.getElem?_eq_none (by simp; omega)]; rfl
theorem erow_zero : erow s n i 0 = List.replicate (n + 1) 0 := by
  refine List.ext_getElem? fun j => ?_
  unfold erow
  rw [List.getElem?_map, List.getElem?_replicate]
  by_cases hj : j < n + 1
  · rw [List.getElem?_range hj, if_pos hj]
    simp
    intro h1 h2; omega
  · rw [if_neg hj, List.getElem?_eq_none (by simp; omega)]; rfl
end
section
variable {s : Nat → Fl} {least p : Int} {n i d : Nat}
theorem runL_of (hd : d ≤ n) (h1 : okR s p i d = true) (h2 : d < n → okR s p i (d + 1) = false) : runL s p i n = d := by
  induction n with
  | zero => rw [show d = 0 by omega]; rfl
  | succ n ih =>
    unfold runL
    rcases Nat.lt_or_ge d (n + 1) with h | h
    · have h3 : ¬ okR s p i (n + 1) = true := fun k => by
        have := okR_pre (show d + 1 ≤ n + 1 by omega) k
        rw [h2 h] at this; exact absurd this (by decide)
      rw [if_neg h3]
      exact ih (by omega) (fun _ => h2 h)
    · rw [show n + 1 = d by omega, if_pos h1]
theorem crowF_of (hd : i + d ≤ n) (h2 : i + d < n → okR s p i (d + 1) = false) : crow s least p n i d = crowF s least p n i := by
  unfold crowF crow
  refine List.map_congr_left fun j hj => ?_
  have hj : j < n + 1 := List.mem_range.1 hj
  by_cases h1 : i < j ∧ j ≤ i + d
  · rw [if_pos h1, if_pos (by omega)]
  · rw [if_neg h1]
    by_cases h3 : i < j ∧ j ≤ i + (n - i)
    · rw [if_pos h3]
      have : cO s least p i (j - i) = none := by
        unfold cO
        rw [if_neg]
        rintro ⟨h4, _⟩
        have := okR_pre (show d + 1 ≤ j - i by omega) h4
        rw [h2 (by omega)] at this; exact absurd this (by decide)
      rw [this]; rfl
    · rw [if_neg h3]
theorem erowF_of (hd : i + d ≤ n) (h1 : okR s p i d = true) (h2 : i + d < n → okR s p i (d + 1) = false) : erow s n i d = erowF s p n i := by
  unfold erowF
  rw [runL_of (d := d) (by omega) h1 (fun h => h2 (by omega))]
end

/-- The memory that a row works on. -/
structure RM (w : World) (w0 : World) (bt o : Nat) (A : Option Addr) (cf : Nat) (fs : List Fl) (ord : List Int) (cv ev : Value) (bs b1 r1 r2 : Nat) (sp : List Value) (f1 : Fl) (c e : List Int) : Prop where
  tb : TB w bt o A cf fs ord cv ev
  s : Blk w bs sp 24
  f : Blk w b1 (fcs f1) 44
  c : Blk w r1 (ints c) 3
  e : Blk w r2 (ints e) 3
  b : Below w0.heap.size w0 w
  n : r1 ≠ r2
  l1 : w0.heap.size ≤ r1
  l2 : w0.heap.size ≤ r2
  l3 : w0.heap.size ≤ bs
  l4 : w0.heap.size ≤ b1
  z : bt < w0.heap.size
  zo : o < w0.heap.size
  za : 0 < fs.length → ∀ ad, A = some ad → ad.block < w0.heap.size
section
variable {w w1 w0 : World} {bt o : Nat} {A : Option Addr} {cf : Nat} {fs : List Fl} {ord : List Int} {cv ev : Value} {bs b1 r1 r2 : Nat} {sp : List Value} {f1 : Fl} {c e : List Int}
theorem RM.below (h : RM w w0 bt o A cf fs ord cv ev bs b1 r1 r2 sp f1 c e) (k : Below w.heap.size w w1) : RM w1 w0 bt o A cf fs ord cv ev bs b1 r1 r2 sp f1 c e :=
  { h with tb := h.tb.below k, s := h.s.below k, f := h.f.below k, c := h.c.below k, e := h.e.below k, b := below_step h.b k }
theorem RM.setC (h : RM w w0 bt o A cf fs ord cv ev bs b1 r1 r2 sp f1 c e) (j : Nat) (v : Int) : RM (w.setCell ⟨r1, j, none⟩ (.int .i64 v)) w0 bt o A cf fs ord cv ev bs b1 r1 r2 sp f1 (c.set j v) e := by
  have k : Kp (fun k => k = r1) w (w.setCell ⟨r1, j, none⟩ (.int .i64 v)) := (Kp.refl (fun k => k = r1) w).setCell (p := ⟨r1, j, none⟩) (fun _ => rfl) _
  have n1 : ∀ x cs t, Blk w x cs t → t ≠ 3 → x ≠ r1 := fun x cs t hx ht => hx.ne_of_type h.c ht
  refine { h with tb := h.tb.kp k (n1 _ _ _ h.tb.t (by decide)) ?_ ?_, s := h.s.kp k (n1 _ _ _ h.s (by decide)), f := h.f.kp k (n1 _ _ _ h.f (by decide)), c := ?_, e := h.e.kp k (Ne.symm h.n), b := h.b.setCell h.l1 _ }
  · intro he; have := h.zo; have := h.l1; omega
  · intro hp ad ea he; have := h.za hp ad ea; have := h.l1; omega
  · have := h.c.set j (.int .i64 v)
    rwa [ints_set] at this
theorem RM.setE (h : RM w w0 bt o A cf fs ord cv ev bs b1 r1 r2 sp f1 c e) (j : Nat) (v : Int) : RM (w.setCell ⟨r2, j, none⟩ (.int .i64 v)) w0 bt o A cf fs ord cv ev bs b1 r1 r2 sp f1 c (e.set j v) := by
  have k : Kp (fun k => k = r2) w (w.setCell ⟨r2, j, none⟩ (.int .i64 v)) := (Kp.refl (fun k => k = r2) w).setCell (p := ⟨r2, j, none⟩) (fun _ => rfl) _
  have n1 : ∀ x cs t, Blk w x cs t → t ≠ 3 → x ≠ r2 := fun x cs t hx ht => hx.ne_of_type h.e ht
  refine { h with tb := h.tb.kp k (n1 _ _ _ h.tb.t (by decide)) ?_ ?_, s := h.s.kp k (n1 _ _ _ h.s (by decide)), f := h.f.kp k (n1 _ _ _ h.f (by decide)), e := ?_, c := h.c.kp k h.n, b := h.b.setCell h.l2 _ }
  · intro he; have := h.zo; have := h.l2; omega
  · intro hp ad ea he; have := h.za hp ad ea; have := h.l2; omega
  · have := h.e.set j (.int .i64 v)
    rwa [ints_set] at this
end
end Go.Proofs.Ythkfahkkcjagdaa
end
section
namespace Go.Proofs.Ythkfahkkcjagdaa
open Go.RowKit Go.Proofs.YthkfahkkcjagdaaW.PrintWords Go.Proofs.YthkfahkkcjagdaaW.PrintMore Go.Proofs.YthkfahkkcjagdaaW.PrintLast

theorem info35 : (Try.prog.info? 35).map (fun i => (i.zero, i.size, i.bytes)) = some (some (.slice none 0 0), 1, 24) := by kernel_rfl
/-- A slice of the call's own whose elements are slices. -/
abbrev OwnS (w : World) (N : Nat) (v : Value) (xs : List Value) : Prop := w.ownsRow N 35 1 v xs.length xs
theorem OwnS.below {w w1 : World} {N : Nat} {v : Value} {xs : List Value} (h : OwnS w N v xs) (hb : Below w.heap.size w w1) : OwnS w1 N v xs := pw_own_below h hb
theorem OwnS.lt {w : World} {N : Nat} {v : Value} {xs : List Value} (h : OwnS w N v xs) {k : Nat} (hk : v.ownBlock = some k) : N ≤ k ∧ k < w.heap.size ∧ ∃ cells, w.heap[k]? = some (.cells cells 35 (0, 0)) := by
  obtain ⟨c, hc⟩ := own_typed h k hk
  rcases h.2 with ⟨rfl, _⟩ | ⟨g, cap, cur, rfl, hg, hh, r⟩
  · simp [Value.ownBlock] at hk
  · simp only [Value.ownBlock, Option.some.injEq] at hk
    subst hk
    exact ⟨hg, lt_of_block hh, c, hc⟩
theorem OwnS.kp {w w1 : World} {N : Nat} {v : Value} {xs : List Value} {S : Nat → Prop} (h : OwnS w N v xs) (k : Kp S w w1) (hn : ∀ j, v.ownBlock = some j → ¬ S j) : OwnS w1 N v xs :=
  own_move h fun j hj => k.block j (h.lt hj).2.1 (hn j hj)
theorem Kp.grown {S T : Nat → Prop} {w w1 w2 : World} {row : Option Nat} (h : Kp S w w1) (g : w1.grownBy w2 row) (hs : ∀ j, row = some j → T j) (hst : ∀ j, S j → T j) : Kp T w w2 :=
  ⟨g.os.trans h.os, g.tape.trans h.tape, g.output.trans h.output, Nat.le_trans h.size g.size, fun j hj hn =>
    (g.block j (Nat.lt_of_lt_of_le hj h.size) (fun e => hn (hs j e.symm))).trans (h.block j hj (fun hk => hn (hst j hk)))⟩
theorem step_own {ops : Array Oper} {o : Oper} {a : Act} {K : Act → World → Prop} {Q : Exit → Act → World → Prop} {E : Prop} {W : World} (wc : World) (S : Nat → Prop) (hgd : o.guard = none) (s x : Operand)
    (ho : o.op = .call { callee := .builtin .append, args := #[s, x], argTypes := #[101, 101] })
    (N : Nat) (v : Value) (xs : List Value) (y : Value) (b : Nat) (hs : a.eval s = v) (hx : a.eval x = .slice (some ⟨b, 0, none⟩) 1 1) (hown : OwnS W N v xs) (hb : W.heap[b]? = some (.cells #[y] 35 (0, 0))) (hy : y.oneCell' = true)
    (hl : xs.length ≤ 1000) (hN : N ≤ W.heap.size) (hk : Kp S wc W)
    (h : ∀ g cap w', OwnS w' N (.slice (some ⟨g, 0, none⟩) (xs.length + 1) cap) (xs ++ [y]) → Kp (fun j => S j ∨ v.ownBlock = some j) wc w' → (v.ownBlock = some g ∨ (wc.heap.size ≤ g ∧ W.heap.size ≤ g)) → g < w'.heap.size → (∀ j, j < W.heap.size → v.ownBlock ≠ some j → w'.heap[j]? = W.heap[j]?) → K (a.put o.dst (.slice (some ⟨g, 0, none⟩) (xs.length + 1) cap)) w') :
    if Region.wanted o (yielded ops a.tmps) = true then Oper.wp Try.prog o a W K Q else E := by
  obtain ⟨i, hi, he⟩ := Option.map_eq_some_iff.1 info35
  simp only [Prod.mk.injEq] at he
  refine step_append_lies W hgd s x 101 ho N 35 i (.slice none 0 0) 1 24 Try.underlying101 hi he.1 he.2.1 he.2.2 rfl (by decide) v xs.length xs hs hown ⟨b, 0, none⟩ 1 1 [y] hx rfl (World.news_of_block hb) (by simpa using hy) (by decide) (by unfold maxLen; omega) (by omega) hN W.heap.size rfl ?_
  intro g cap w' h1 h2 h3 h4
  refine h g cap w' ?_ (hk.grown h2 (fun j e => .inr e) (fun j e => .inl e)) ?_ h4 (fun j hj hne => h2.block j hj (fun e => hne e.symm))
  · have e : (xs ++ [y]).length = xs.length + 1 := by simp
    show w'.ownsRow N 35 1 _ (xs ++ [y]).length _
    rw [e]; exact h1
  · rcases h3 with h3 | h3
    · exact .inl h3
    · have := hk.size; exact .inr (by omega)
theorem row_ne {wc W : World} {N g : Nat} {v : Option Nat} {ev : Value} {es : List Value} (h : v = some g ∨ (wc.heap.size ≤ g ∧ W.heap.size ≤ g)) (hd : ∀ k, v = some k → ev.ownBlock ≠ some k) (he : OwnS wc N ev es) : ev.ownBlock ≠ some g := by
  intro e
  rcases h with h | h
  · exact hd g h e
  · have := (he.lt e).2.1; omega
theorem own_after {w1 W2 w2 : World} {N g n c : Nat} {xs : List Value} {u : Option Nat} (h : OwnS w1 N (.slice (some ⟨g, 0, none⟩) n c) xs) (hb : Below w1.heap.size w1 W2) (hfar : ∀ j, j < W2.heap.size → u ≠ some j → w2.heap[j]? = W2.heap[j]?) (hne : u ≠ some g) : OwnS w2 N (.slice (some ⟨g, 0, none⟩) n c) xs := by
  refine own_move h fun j hj => ?_
  have hlt := (h.lt hj).2.1
  have hj' : j = g := by simpa [Value.ownBlock] using hj.symm
  subst hj'
  exact (hfar j (Nat.lt_of_lt_of_le hlt hb.size) hne).trans (hb.block j hlt)
theorem own_apart {wc w1 W2 : World} {g1 g2 : Nat} {u : Option Nat} (h : u = some g2 ∨ (wc.heap.size ≤ g2 ∧ W2.heap.size ≤ g2)) (hb : Below w1.heap.size w1 W2) (hlt : g1 < w1.heap.size) (hne : u ≠ some g1) : g1 ≠ g2 := by
  rintro rfl
  rcases h with h | h
  · exact hne h
  · have := hb.size; omega
/-- What a row leaves. -/
def RowPost (w : World) (bt o : Nat) (A : Option Addr) (cf : Nat) (fs : List Fl) (ord : List Int) (cv ev : Value) (N : Nat) (cs es : List Value) (i : Nat) (least p : Int) (e : Ending) (w' : World) : Prop :=
  e = .returned (.tuple #[]) ∧ ∃ (r1 r2 : Nat) (cv' ev' : Value), TB w' bt o A cf fs ord cv' ev' ∧ Kp (fun k => k = bt ∨ cv.ownBlock = some k ∨ ev.ownBlock = some k) w w' ∧
    OwnS w' N cv' (cs ++ [.slice (some ⟨r1, 0, none⟩) (fs.length + 1) (fs.length + 1)]) ∧ OwnS w' N ev' (es ++ [.slice (some ⟨r2, 0, none⟩) (fs.length + 1) (fs.length + 1)]) ∧ (∀ k, cv'.ownBlock = some k → ev'.ownBlock ≠ some k) ∧
    Blk w' r1 (ints (crowF (sF fs ord) least p fs.length i)) 3 ∧ Blk w' r2 (ints (erowF (sF fs ord) p fs.length i)) 3 ∧ w.heap.size ≤ r1 ∧ w.heap.size ≤ r2
theorem own_type_ne {w : World} {N : Nat} {v : Value} {xs : List Value} (h : OwnS w N v xs) {b : Nat} {cs : List Value} {t : TypeId} (hb : Blk w b cs t) (ht : t ≠ 35) : v.ownBlock ≠ some b := by
  intro e
  obtain ⟨_, _, cl, hcl⟩ := h.lt e
  unfold Blk at hb
  rw [hcl] at hb
  injection hb with hb
  injection hb with _ h2
  exact ht h2.symm
theorem row_end {w wc w2 : World} {bt o : Nat} {A : Option Addr} {cf : Nat} {fs : List Fl} {ord : List Int} {cv ev : Value} {N bs b1 r1 r2 g1 g2 cap1 cap2 i n : Nat} {sp : List Value} {f1 : Fl} {least p : Int} {cs es : List Value}
    (h9 : RM wc w bt o A cf fs ord cv ev bs b1 r1 r2 sp f1 (crowF (sF fs ord) least p n i) (erowF (sF fs ord) p n i)) (hn : n = fs.length) (hcv : OwnS wc N cv cs) (hev : OwnS wc N ev es)
    (ho1 : OwnS w2 N (.slice (some ⟨g1, 0, none⟩) (cs.length + 1) cap1) (cs ++ [.slice (some ⟨r1, 0, none⟩) (n + 1) (n + 1)])) (ho2 : OwnS w2 N (.slice (some ⟨g2, 0, none⟩) (es.length + 1) cap2) (es ++ [.slice (some ⟨r2, 0, none⟩) (n + 1) (n + 1)]))
    (hk2 : Kp (fun j => (False ∨ cv.ownBlock = some j) ∨ ev.ownBlock = some j) wc w2) (hap : g1 ≠ g2) (hA : 0 < fs.length → ∀ ad, A = some ad → ad.block < N) (hNb : N ≤ bt) :
    RowPost w bt o A cf fs ord cv ev N cs es i least p (.returned (.tuple #[])) ((w2.setCell ⟨bt, 2, none⟩ (.slice (some ⟨g1, 0, none⟩) (cs.length + 1) cap1)).setCell ⟨bt, 3, none⟩ (.slice (some ⟨g2, 0, none⟩) (es.length + 1) cap2)) := by
  subst hn
  have nS : ∀ b cs t, Blk wc b cs t → t ≠ 35 → ¬ ((False ∨ cv.ownBlock = some b) ∨ ev.ownBlock = some b) := by
    rintro b cs t hb ht ((h | h) | h)
    · exact h
    · exact own_type_ne hcv hb ht h
    · exact own_type_ne hev hb ht h
  have hbt := h9.tb.t.kp hk2 (nS _ _ _ h9.tb.t (by decide))
  have ho := h9.tb.o.kp hk2 (nS _ _ _ h9.tb.o (by decide))
  have hr1 := h9.c.kp hk2 (nS _ _ _ h9.c (by decide))
  have hr2 := h9.e.kp hk2 (nS _ _ _ h9.e (by decide))
  have k3 : Kp (fun k => k = bt) w2 ((w2.setCell ⟨bt, 2, none⟩ (.slice (some ⟨g1, 0, none⟩) (cs.length + 1) cap1)).setCell ⟨bt, 3, none⟩ (.slice (some ⟨g2, 0, none⟩) (es.length + 1) cap2)) :=
    ((Kp.refl (fun k => k = bt) w2).setCell (p := ⟨bt, 2, none⟩) (fun _ => rfl) _).setCell (p := ⟨bt, 3, none⟩) (fun _ => rfl) _
  refine ⟨rfl, r1, r2, _, _, ?_, ?_, ho1.kp k3 ?_, ho2.kp k3 ?_, ?_, hr1.kp k3 (hr1.ne_of_type hbt (by decide)), hr2.kp k3 (hr2.ne_of_type hbt (by decide)), h9.l1, h9.l2⟩
  · refine ⟨(hbt.set 2 _).set 3 _, ho.kp k3 (ho.ne_of_type hbt (by decide)), ?_, h9.tb.ol, h9.tb.om⟩
    have f1 : kF.C w2 A fs.length fs := CF_kp h9.tb.f hk2 fun hp ad e => ⟨CF_lt h9.tb.f hp ad e, by
      have hlt := hA hp ad e
      rintro ((h | h) | h)
      · exact h
      · have := (hcv.lt h).1; omega
      · have := (hev.lt h).1; omega⟩
    refine CF_kp f1 k3 fun hp ad e => ⟨CF_lt f1 hp ad e, ?_⟩
    intro hb
    have hlt := hA hp ad e
    omega
  · have k1 : Kp (fun k => k = bt ∨ cv.ownBlock = some k ∨ ev.ownBlock = some k) w wc := Kp.of_below h9.b
    have k2 : Kp (fun k => k = bt ∨ cv.ownBlock = some k ∨ ev.ownBlock = some k) wc w2 := hk2.mono fun j hj => by
      rcases hj with (h | h) | h
      · exact h.elim
      · exact .inr (.inl h)
      · exact .inr (.inr h)
    exact (k1.step k2).step (k3.mono fun j hj => .inl hj)
  · intro j hj hb
    rw [show j = bt from hb] at hj
    exact own_type_ne ho1 hbt (by decide) hj
  · intro j hj hb
    rw [show j = bt from hb] at hj
    exact own_type_ne ho2 hbt (by decide) hj
  · intro k h1 h2
    simp only [Value.ownBlock, Option.some.injEq] at h1 h2
    omega
end Go.Proofs.Ythkfahkkcjagdaa
end
section
namespace Go.Proofs.Ythkfahkkcjagdaa
open Go.RowKit Go.Proofs.YthkfahkkcjagdaaW.PrintWords Go.Proofs.YthkfahkkcjagdaaW.PrintMore Go.Proofs.YthkfahkkcjagdaaW.PrintLast

def u8v (x : Int) : Value := .int .u8 x
theorem all_range_eqI : ∀ (xs ys : List Int), xs.length = ys.length → ((List.range xs.length).all fun i => xs.getD i 0 == ys.getD i 0) = (xs == ys)
  | [], [], _ => rfl
  | x :: xs, y :: ys, h => by
    have ih := all_range_eqI xs ys (by simpa using h)
    rw [List.length_cons, List.range_succ_eq_map, List.all_cons, List.all_map]
    simp only [List.getD_cons_zero, Function.comp_def, List.getD_cons_succ, ih]
    simp [List.cons_beq_cons]
  | [], _ :: _, h => by simp at h
  | _ :: _, [], h => by simp at h
theorem run_equalIn_u8 {P : Program} (w : World) (d : Nat) (t e : TypeId) (n : Nat) (ht : P.underlying t = some (.array n e)) (he : P.underlying e = some (.int .u8)) (hsz : ∀ w, (sizeOf e).run P w = .ok 1 w)
    (xs ys : List Int) (hx : xs.length = n) (hy : ys.length = n) :
    (Op.equalIn (d + 2) t (.agg (xs.map u8v).toArray) (.agg (ys.map u8v).toArray)).run P w = .ok (xs == ys) w := by
  rw [← all_range_eqI xs ys (hx.trans hy.symm), hx, List.range_eq_range', Op.equalIn]
  simp only [Sem.run_bind, run_underlying ht, Result.andThen_ok, hsz, Std.Legacy.Range.forIn_eq_forIn_range', Std.Legacy.Range.size, Nat.sub_zero, Nat.add_sub_cancel, Nat.div_one]
  have hl : ∀ i ∈ List.range' 0 n 1, i < n := fun i hi => by simpa using (List.mem_range'_1.1 hi).2
  generalize List.range' 0 n 1 = l at hl ⊢
  induction l with
  | nil => simp
  | cons i l ih =>
    have hi : i < n := hl i (by simp)
    have px : (part e (xs.map u8v).toArray (i * 1)).run P w = .ok (u8v (xs.getD i 0)) w := by
      simp [part, isAgg, run_underlying he, List.getD, List.getElem?_eq_getElem (show i < xs.length by omega)]
    have py : (part e (ys.map u8v).toArray (i * 1)).run P w = .ok (u8v (ys.getD i 0)) w := by
      simp [part, isAgg, run_underlying he, List.getD, List.getElem?_eq_getElem (show i < ys.length by omega)]
    have pe : (Op.equalIn (d + 1) e (u8v (xs.getD i 0)) (u8v (ys.getD i 0))).run P w = .ok (xs.getD i 0 == ys.getD i 0) w := by
      rw [u8v, u8v, run_equalIn_int w d e .u8 .u8 _ _ he]
    simp only [List.forIn_cons, Sem.run_bind, px, py, pe, Result.andThen_ok, List.all_cons]
    cases hb : (xs.getD i 0 == ys.getD i 0)
    · simp
    · simp only [Bool.not_true, Bool.false_eq_true, if_false, Sem.run_pure, Result.andThen_ok, Bool.true_and]
      exact ih fun j hj => hl j (by simp [hj])
/-- Two kinds compared. -/
theorem kind_eql (w : World) (p0 p1 p2 p3 q0 q1 q2 q3 : Int) :
    (Op.equalIn 10000 34 (.agg #[.int .u8 p0, .int .u8 p1, .int .u8 p2, .int .u8 p3]) (.agg #[.int .u8 q0, .int .u8 q1, .int .u8 q2, .int .u8 q3])).run Try.prog w = .ok (decide (p0 = q0 ∧ p1 = q1 ∧ p2 = q2 ∧ p3 = q3)) w := by
  have h := run_equalIn_u8 (P := Try.prog) w 9998 34 5 4 Try.underlying34 Try.underlying5 Try.sizeOf5 [p0, p1, p2, p3] [q0, q1, q2, q3] rfl rfl
  have e : ([p0, p1, p2, p3] == [q0, q1, q2, q3]) = decide (p0 = q0 ∧ p1 = q1 ∧ p2 = q2 ∧ p3 = q3) := by
    rw [Bool.eq_iff_iff]; simp
  rw [e] at h
  exact h
theorem fl_mic (w : World) (a b c d e f : Int) : (Instr.field 44 (.agg #[.int .u8 a, .int .u8 b, .int .u8 c, .int .u8 d, .int .i64 e, .int .i64 f]) 1).run Try.prog w = .ok (.int .i64 e) w := by kernel_rfl
theorem fl_gr (w : World) (a b c d e f : Int) : (Instr.field 44 (.agg #[.int .u8 a, .int .u8 b, .int .u8 c, .int .u8 d, .int .i64 e, .int .i64 f]) 2).run Try.prog w = .ok (.int .i64 f) w := by kernel_rfl
theorem fl_kind (w : World) (a b c d e f : Int) : (Instr.field 44 (.agg #[.int .u8 a, .int .u8 b, .int .u8 c, .int .u8 d, .int .i64 e, .int .i64 f]) 0).run Try.prog w = .ok (.agg #[.int .u8 a, .int .u8 b, .int .u8 c, .int .u8 d]) w := by kernel_rfl
end Go.Proofs.Ythkfahkkcjagdaa
end
