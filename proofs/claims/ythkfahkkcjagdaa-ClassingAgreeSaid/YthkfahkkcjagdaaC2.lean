/- The check of a list of fleeces, and the comparison of two fleeces: what the program's functions answer. -/
import Derived.Test.YthkfahkkcjagdaaC1
namespace Go.Proofs.Ythkfahkkcjagdaa
open Go.RowKit Go.Proofs.YthkfahkkcjagdaaW.PrintWords Go.Proofs.YthkfahkkcjagdaaW.PrintMore Go.Proofs.YthkfahkkcjagdaaW.PrintLast

theorem bad_any (w : World) (k0 k1 k2 k3 x y : Int) : Calls Try.prog 97 #[.agg #[.int .u8 k0, .int .u8 k1, .int .u8 k2, .int .u8 k3, .int .i64 x, .int .i64 y]] w fun e w' => e = .returned (.bool (!flOK ⟨k0, k1, k2, k3, x, y⟩)) ∧ Below w.heap.size w w' := by
  have HB := Aside0.mk (below_alloc (Below.refl w.heap.size w) (.cells #[.int .u8 k0, .int .u8 k1, .int .u8 k2, .int .u8 k3, .int .i64 x, .int .i64 y] 44))
  have b0 := Blk.new w [.int .u8 k0, .int .u8 k1, .int .u8 k2, .int .u8 k3, .int .i64 x, .int .i64 y] 44
  have c0 := b0.at_ (i := 0) rfl
  have c1 := b0.at_ (i := 1) rfl
  have c2 := b0.at_ (i := 2) rfl
  have c3 := b0.at_ (i := 3) rfl
  have c4 := b0.at_ (i := 4) rfl
  have c5 := b0.at_ (i := 5) rfl
  clear b0
  have hc := Aside0.mk (fun W => fleece_any W k0 k1 k2 k3 x y)
  go_enter Try.func97, Try.ntmps97
  go_wp2_with ((with_reducible refine (hc.out _).mono ?_); rintro e w' ⟨rfl, hb⟩; have HB2 := Aside0.mk (below_step HB.out hb); clear hb)
  go_ret
  exact ⟨rfl, HB2.out⟩

/-- The first index, from i on, at which a fleece is not in its limits; -1 if there is none. -/
def badFrom (i : Int) : List Fl → Int
  | [] => -1
  | x :: xs => if flOK x then badFrom (i + 1) xs else i
theorem badFrom_hit {i : Int} {x : Fl} {xs : List Fl} (h : flOK x = false) : badFrom i (x :: xs) = i := by unfold badFrom; rw [if_neg (by simp [h])]
theorem badFrom_miss {i : Int} {x : Fl} {xs : List Fl} (h : flOK x = true) : badFrom i (x :: xs) = badFrom (i + 1) xs := by
  rw [badFrom, if_pos h]
theorem badFrom_any : ∀ (xs : List Fl) (i : Int), 0 ≤ i → (0 ≤ badFrom i xs ↔ xs.all flOK = false) := by
  intro xs
  induction xs with
  | nil => intro i _; simp [badFrom]
  | cons x xs ih =>
    intro i h
    unfold badFrom
    by_cases hp : flOK x = true
    · simp only [hp, List.all_cons, Bool.true_and]
      simpa [hp] using ih (i + 1) (by omega)
    · simp [hp, h]

theorem enter97 (args : Array Value) (W : World) : (callFunc 97 args).run Try.prog W = .ok (.enter 97 args) W := by kernel_rfl
set_option maxHeartbeats 2000000 in
theorem findBad_any (w : World) (A : Option Addr) (c : Nat) (xs : List Fl) (h : kF.C w A xs.length xs) :
    Calls Try.prog 124 #[.slice A xs.length c, .func (.func 97) #[] #[]] w fun e w' => e = .returned (.int .i64 (badFrom 0 xs)) ∧ Below w.heap.size w w' := by
  have hl := Kd.C_max h
  have hen := enter97
  have HR := Aside0.mk h; clear h
  have HP := Aside0.mk bad_any
  go_enter Try.func124, Try.ntmps124
  go_wp2_with fail
  go_loopw [8] (fun v wr => ∃ i : Int, v = .int .i64 i ∧ 0 ≤ i ∧ i ≤ xs.length ∧ Aside0 (badFrom i (xs.drop i.toNat) = badFrom 0 xs) ∧ Aside0 (Below w.heap.size w wr)) (fun v _ => xs.length - (intOf v).toNat)
  case atStart => exact ⟨0, rfl, by omega, by omega, ⟨rfl⟩, ⟨Below.refl _ _⟩⟩
  case round =>
    obtain ⟨i, rfl, h0, h1, he, hb⟩ := hrel
    by_cases hlt : i < xs.length
    · obtain ⟨ad, e1, g0, g1, g2, g3, g4, g5⟩ := at_F (Kd.C_below HR.out hb.out) i h0 hlt
      subst e1
      have hdr := dropP xs fl0 i h0 hlt
      change xs.drop i.toNat = rdF xs i :: _ at hdr
      have HDR := Aside0.mk hdr; clear hdr
      obtain ⟨f, hf⟩ : ∃ z, z = rdF xs i := ⟨_, rfl⟩
      rw [← hf] at g0 g1 g2 g3 g4 g5
      have HF := Aside0.mk hf; clear hf
      obtain ⟨k0, k1, k2, k3, x, y⟩ := f
      dsimp only at g0 g1 g2 g3 g4 g5
      go_wp2_with ((with_reducible refine (HP.out _ _ _ _ _ _ _).mono ?_); rintro e5 w5 ⟨rfl, hb5⟩; have HB5 := Aside0.mk (hb.out.trans (hb5.mono hb.out.size)); clear hb5)
      · rename_i hbad
        go_ret
        have := he.out
        rw [HDR.out, ← HF.out, badFrom_hit (by simpa using hbad)] at this
        exact ⟨ret_int this, HB5.out⟩
      · rename_i hbad
        go_roundw
        case rel =>
          have := he.out
          rw [HDR.out, ← HF.out, badFrom_miss (by simpa using hbad)] at this
          exact ⟨i + 1, by go_num, by omega, by omega, ⟨this⟩, HB5⟩
        case measure => simp [intOf]; omega
    · go_wp2_with fail
      go_ret
      have := he.out
      rw [show i.toNat = xs.length by omega, List.drop_length] at this
      exact ⟨ret_int this, hb.out⟩
theorem anyBad_any (w : World) (A : Option Addr) (c : Nat) (xs : List Fl) (h : kF.C w A xs.length xs) :
    Calls Try.prog 96 #[.slice A xs.length c, .func (.func 97) #[] #[]] w fun e w' => e = .returned (.bool (!xs.all flOK)) ∧ Below w.heap.size w w' := by
  have hi := Aside0.mk (findBad_any w A c xs h)
  clear h
  go_enter Try.func96, Try.ntmps96
  go_wp2_with ((with_reducible refine hi.out.mono ?_); rintro e5 w5 ⟨rfl, hb5⟩)
  go_ret
  have := badFrom_any xs 0 (by omega)
  exact ⟨ret_bool (by rw [Bool.eq_iff_iff]; simp [this]), hb5⟩

/-! ### The comparison of two kinds and two fleeces -/
/-- The comparison of two kinds. -/
def kcmp (a b : Fl) : Int :=
  if a.k0 = b.k0 then if a.k1 = b.k1 then if a.k2 = b.k2 then if a.k3 = b.k3 then 0
  else if a.k3 < b.k3 then -1 else 1
  else if a.k2 < b.k2 then -1 else 1
  else if a.k1 < b.k1 then -1 else 1
  else if a.k0 < b.k0 then -1 else 1
/-- The bytes of a kind are bytes. -/
def kOK (f : Fl) : Prop := (0 ≤ f.k0 ∧ f.k0 ≤ 255) ∧ (0 ≤ f.k1 ∧ f.k1 ≤ 255) ∧ (0 ≤ f.k2 ∧ f.k2 ≤ 255) ∧ 0 ≤ f.k3 ∧ f.k3 ≤ 255
theorem u8_eq {x y : Int} (hx : 0 ≤ x ∧ x ≤ 255) (hy : 0 ≤ y ∧ y ≤ 255) : (x.toNat.toUInt8 = y.toNat.toUInt8) ↔ x = y := by
  constructor
  · intro h
    have := congrArg UInt8.toNat h
    simp only [Nat.toUInt8, UInt8.toNat_ofNat'] at this
    omega
  · rintro rfl; rfl
theorem u8_lt {x y : Int} (hx : 0 ≤ x ∧ x ≤ 255) (hy : 0 ≤ y ∧ y ≤ 255) : (x.toNat.toUInt8 < y.toNat.toUInt8) ↔ x < y := by
  rw [UInt8.lt_iff_toNat_lt]
  simp only [Nat.toUInt8, UInt8.toNat_ofNat']
  omega
theorem cmp_bytes (a b : Fl) (ha : kOK a) (hb : kOK b) : Extern.BytealgCompare.cmp ⟨(Lib.bytesOf [a.k0, a.k1, a.k2, a.k3]).toArray⟩ ⟨(Lib.bytesOf [b.k0, b.k1, b.k2, b.k3]).toArray⟩ = kcmp a b := by
  obtain ⟨a0, a1, a2, a3⟩ := ha
  obtain ⟨b0, b1, b2, b3⟩ := hb
  have e0 := u8_eq a0 b0
  have e1 := u8_eq a1 b1
  have e2 := u8_eq a2 b2
  have e3 := u8_eq a3 b3
  have l0 := u8_lt a0 b0
  have l1 := u8_lt a1 b1
  have l2 := u8_lt a2 b2
  have l3 := u8_lt a3 b3
  unfold Extern.BytealgCompare.cmp kcmp
  have hr : List.range (min (ByteArray.mk (Lib.bytesOf [a.k0, a.k1, a.k2, a.k3]).toArray).size (ByteArray.mk (Lib.bytesOf [b.k0, b.k1, b.k2, b.k3]).toArray).size) = [0, 1, 2, 3] := rfl
  rw [hr]
  have g : ∀ f : Fl, (ByteArray.mk (Lib.bytesOf [f.k0, f.k1, f.k2, f.k3]).toArray)[0]! = f.k0.toNat.toUInt8 ∧ (ByteArray.mk (Lib.bytesOf [f.k0, f.k1, f.k2, f.k3]).toArray)[1]! = f.k1.toNat.toUInt8 ∧ (ByteArray.mk (Lib.bytesOf [f.k0, f.k1, f.k2, f.k3]).toArray)[2]! = f.k2.toNat.toUInt8 ∧ (ByteArray.mk (Lib.bytesOf [f.k0, f.k1, f.k2, f.k3]).toArray)[3]! = f.k3.toNat.toUInt8 := fun f => ⟨rfl, rfl, rfl, rfl⟩
  have ga := g a
  have gb := g b
  have sz : ∀ f : Fl, (ByteArray.mk (Lib.bytesOf [f.k0, f.k1, f.k2, f.k3]).toArray).size = 4 := fun f => rfl
  simp only [List.find?_cons, List.find?_nil, ga.1, ga.2.1, ga.2.2.1, ga.2.2.2, gb.1, gb.2.1, gb.2.2.1, gb.2.2.2, sz]
  by_cases h0 : a.k0 = b.k0
  · rw [if_pos h0, show (a.k0.toNat.toUInt8 != b.k0.toNat.toUInt8) = false by simp [e0.2 h0]]
    by_cases h1 : a.k1 = b.k1
    · rw [if_pos h1, show (a.k1.toNat.toUInt8 != b.k1.toNat.toUInt8) = false by simp [e1.2 h1]]
      by_cases h2 : a.k2 = b.k2
      · rw [if_pos h2, show (a.k2.toNat.toUInt8 != b.k2.toNat.toUInt8) = false by simp [e2.2 h2]]
        by_cases h3 : a.k3 = b.k3
        · rw [if_pos h3, show (a.k3.toNat.toUInt8 != b.k3.toNat.toUInt8) = false by simp [e3.2 h3]]
          rfl
        · rw [if_neg h3, show (a.k3.toNat.toUInt8 != b.k3.toNat.toUInt8) = true by simp [e3, h3]]
          simp only [ga.2.2.2, gb.2.2.2, l3]
      · rw [if_neg h2, show (a.k2.toNat.toUInt8 != b.k2.toNat.toUInt8) = true by simp [e2, h2]]
        simp only [ga.2.2.1, gb.2.2.1, l2]
    · rw [if_neg h1, show (a.k1.toNat.toUInt8 != b.k1.toNat.toUInt8) = true by simp [e1, h1]]
      simp only [ga.2.1, gb.2.1, l1]
  · rw [if_neg h0, show (a.k0.toNat.toUInt8 != b.k0.toNat.toUInt8) = true by simp [e0, h0]]
    simp only [ga.1, gb.1, l0]

theorem run_loadKind {w : World} {P : Program} {b : Nat} {f : Fl} (h : ∀ j x, [f.k0, f.k1, f.k2, f.k3][j]? = some x → w.cell? ⟨b, j, none⟩ = some (.int .u8 x)) :
    (Extern.Bytes.bytesOf (.slice (some ⟨b, 0, none⟩) 4 4)).run P w = .ok ⟨(Lib.bytesOf [f.k0, f.k1, f.k2, f.k3]).toArray⟩ w := by
  have hl := Lib.run_loadBytesX (P := P) w [f.k0, f.k1, f.k2, f.k3] ⟨b, 0, none⟩ .empty (fun j x hj => by
    have e : (⟨b, 0, none⟩ : Addr).add j = ⟨b, j, none⟩ := by unfold Addr.add; split <;> simp_all
    rw [e]; exact h j x hj)
  have he : (⟨ByteArray.empty.data ++ (Lib.bytesOf [f.k0, f.k1, f.k2, f.k3]).toArray⟩ : ByteArray) = ⟨(Lib.bytesOf [f.k0, f.k1, f.k2, f.k3]).toArray⟩ := by
    apply ByteArray.ext
    show (#[] : Array UInt8) ++ _ = _
    simp
  rw [he] at hl
  exact hl

theorem run_cmp {w : World} {p q : Nat} {a b : Fl} (ha : kOK a) (hb : kOK b) (hp : ∀ j x, [a.k0, a.k1, a.k2, a.k3][j]? = some x → w.cell? ⟨p, j, none⟩ = some (.int .u8 x)) (hq : ∀ j x, [b.k0, b.k1, b.k2, b.k3][j]? = some x → w.cell? ⟨q, j, none⟩ = some (.int .u8 x)) :
    (callFunc 126 #[.slice (some ⟨p, 0, none⟩) 4 4, .slice (some ⟨q, 0, none⟩) 4 4]).run Try.prog w = .ok (.value (.int .i64 (kcmp a b))) w := by
  rw [run_callFunc_extern Try.func126 (by kernel_rfl) (by kernel_rfl) (by kernel_rfl) (e := Extern.BytealgCompare.compare) (by kernel_rfl)]
  have e : Extern.BytealgCompare.compare #[.slice (some ⟨p, 0, none⟩) 4 4, .slice (some ⟨q, 0, none⟩) 4 4] = (do let x ← Extern.Bytes.bytesOf (.slice (some ⟨p, 0, none⟩) 4 4); let y ← Extern.Bytes.bytesOf (.slice (some ⟨q, 0, none⟩) 4 4); pure (.int .i64 (Extern.BytealgCompare.cmp x y))) := rfl
  rw [e]
  simp only [Sem.run_bind, Sem.run_pure, run_loadKind hp, run_loadKind hq, Result.andThen]
  rw [cmp_bytes a b ha hb]

theorem compareB_any (w : World) (p q : Nat) (a b : Fl) (ha : kOK a) (hb : kOK b) (hp : ∀ j x, [a.k0, a.k1, a.k2, a.k3][j]? = some x → w.cell? ⟨p, j, none⟩ = some (.int .u8 x)) (hq : ∀ j x, [b.k0, b.k1, b.k2, b.k3][j]? = some x → w.cell? ⟨q, j, none⟩ = some (.int .u8 x)) :
    Calls Try.prog 102 #[.slice (some ⟨p, 0, none⟩) 4 4, .slice (some ⟨q, 0, none⟩) 4 4] w fun e w' => e = .returned (.int .i64 (kcmp a b)) ∧ w = w' := by
  have hr := run_cmp ha hb hp hq
  clear hp hq
  go_enter Try.func102, Try.ntmps102
  go_wp2_with fail
  go_ret
  exact ⟨rfl, rfl⟩

/-- The first that is not 0. -/
theorem or_any (w : World) (b : Nat) (x y : Int) (h : Blk w b [.int .i64 x, .int .i64 y] 3) :
    Calls Try.prog 101 #[.slice (some ⟨b, 0, none⟩) 2 2] w fun e w' => e = .returned (.int .i64 (if x = 0 then y else x)) ∧ w = w' := by
  have c0 := h.at_ (i := 0) rfl
  have c1 := h.at_ (i := 1) rfl
  clear h
  by_cases hx : x = 0
  · subst hx
    by_cases hy : y = 0
    · subst hy
      go_enter Try.func101, Try.ntmps101
      go_wp2_with fail
      refine wp_loop_rounds 3 ?_
      rw [rounds_succ]
      go_wp2_with fail
      rw [rounds_succ]
      go_wp2_with fail
      rw [rounds_succ]
      go_wp2_with fail
      go_ret
      exact ⟨rfl, rfl⟩
    · have hd2 : (y != 0) = true := by simp [hy]
      go_enter Try.func101, Try.ntmps101
      go_wp2_with fail
      refine wp_loop_rounds 2 ?_
      rw [rounds_succ]
      go_wp2_with fail
      rw [rounds_succ]
      go_wp2_with fail
      go_ret
      exact ⟨rfl, rfl⟩
  · have hd : (x != 0) = true := by simp [hx]
    have HE : Aside0 ((if x = 0 then y else x) = x) := ⟨by rw [if_neg hx]⟩
    go_enter Try.func101, Try.ntmps101
    go_wp2_with fail
    refine wp_loop_rounds 1 ?_
    rw [rounds_succ]
    go_wp2_with fail
    go_ret
    exact ⟨by first | rfl | exact ret_int HE.out.symm, rfl⟩
end Go.Proofs.Ythkfahkkcjagdaa
