/- Fleeces: how a list of them is read; the checks of a fleece and of the conditions. -/
import Derived.Test.YthkfahkkcjagdaaMK
import Derived.Lib.BytesEntry
import Derived.Laws.Externs
namespace Go.Proofs.Ythkfahkkcjagdaa
open Go.RowKit Go.Proofs.YthkfahkkcjagdaaW.PrintWords Go.Proofs.YthkfahkkcjagdaaW.PrintMore Go.Proofs.YthkfahkkcjagdaaW.PrintLast

/-- A fleece: its kind's four bytes, its diameter, its mass. -/
structure Fl where
  k0 : Int
  k1 : Int
  k2 : Int
  k3 : Int
  mic : Int
  gr : Int
  deriving DecidableEq
def fcs (f : Fl) : List Value := [.int .u8 f.k0, .int .u8 f.k1, .int .u8 f.k2, .int .u8 f.k3, .int .i64 f.mic, .int .i64 f.gr]
def fl0 : Fl := ⟨0, 0, 0, 0, 0, 0⟩
/-- A struct of four bytes and two whole numbers. -/
def kF : Kd Fl where
  sz := 6
  E := []
  K := fun _ x cs => cs = fcs x
  M := fun _ _ _ x cs => cs = fcs x
  K_len := by rintro w x cs rfl; rfl
  K_one := by rintro w x cs rfl; simp [fcs, Value.oneCell']
  K_below := fun _ h => h
  K_of_M := fun h => h
  M_mono := fun _ h => h
  M_bound := fun h => h
  M_move := fun _ h => h
  M_lower := fun _ h => h
def rdF (xs : List Fl) (i : Int) : Fl := xs.getD i.toNat fl0
theorem at_F {w : World} {A : Option Addr} {n : Nat} {xs : List Fl} (h : kF.C w A n xs) (i : Int) (h0 : 0 ≤ i) (h1 : i < n) : ∃ ad, A = some ad ∧ w.cell? (ad.add (i.toNat * 6)) = some (.int .u8 (rdF xs i).k0) ∧ w.cell? ⟨(ad.add (i.toNat * 6)).block, (ad.add (i.toNat * 6)).off + 1, none⟩ = some (.int .u8 (rdF xs i).k1) ∧ w.cell? ⟨(ad.add (i.toNat * 6)).block, (ad.add (i.toNat * 6)).off + 2, none⟩ = some (.int .u8 (rdF xs i).k2) ∧ w.cell? ⟨(ad.add (i.toNat * 6)).block, (ad.add (i.toNat * 6)).off + 3, none⟩ = some (.int .u8 (rdF xs i).k3) ∧ w.cell? ⟨(ad.add (i.toNat * 6)).block, (ad.add (i.toNat * 6)).off + 4, none⟩ = some (.int .i64 (rdF xs i).mic) ∧ w.cell? ⟨(ad.add (i.toNat * 6)).block, (ad.add (i.toNat * 6)).off + 5, none⟩ = some (.int .i64 (rdF xs i).gr) := by
  obtain ⟨ad, c, e, _, hK, hc0⟩ := Kd.C_get h fl0 i h0 h1
  have hc : ∀ j u, c[j]? = some u → w.cell? (ad.add (i.toNat * 6 + j)) = some u := hc0
  have hK' : c = fcs (rdF xs i) := hK
  subst hK'
  exact ⟨ad, e, hc 0 _ rfl, by rw [← add_field _ _ 1 (by omega)]; exact hc 1 _ rfl, by rw [← add_field _ _ 2 (by omega)]; exact hc 2 _ rfl, by rw [← add_field _ _ 3 (by omega)]; exact hc 3 _ rfl, by rw [← add_field _ _ 4 (by omega)]; exact hc 4 _ rfl, by rw [← add_field _ _ 5 (by omega)]; exact hc 5 _ rfl⟩
theorem CF_kp {S : Nat → Prop} {w w1 : World} {A : Option Addr} {n : Nat} {xs : List Fl} (h : kF.C w A n xs) (k : Kp S w w1) (hn : 0 < n → ∀ ad, A = some ad → ad.block < w.heap.size ∧ ¬ S ad.block) : kF.C w1 A n xs := by
  obtain ⟨h1, h2, h3⟩ := h
  refine ⟨h1, h2, fun hp => ?_⟩
  obtain ⟨ad, e, h4⟩ := h3 hp
  refine ⟨ad, e, fun j p hj => ?_⟩
  obtain ⟨c, h5, h6, h7⟩ := h4 j p hj
  refine ⟨c, h5, h6, fun i u hi => ?_⟩
  refine (World.cell?_of_block (w := w) ?_).trans (h7 i u hi)
  rw [add_block]
  exact k.block _ (hn hp ad e).1 (hn hp ad e).2
theorem CF_lt {w : World} {A : Option Addr} {n : Nat} {xs : List Fl} (h : kF.C w A n xs) : 0 < n → ∀ ad, A = some ad → ad.block < w.heap.size := by
  intro hp ad e
  obtain ⟨ad2, e2, hc, _⟩ := at_F h 0 (by omega) (by omega)
  rw [e] at e2
  cases e2
  have := World.block_lt_of_cell? w _ hc
  rwa [add_block] at this

def flOK (f : Fl) : Bool := decide (1 ≤ f.mic ∧ f.mic ≤ 10000 ∧ 1 ≤ f.gr ∧ f.gr ≤ 1073741824)
def spOK (l s p : Int) : Bool := decide (1 ≤ l ∧ l ≤ 16 ∧ 0 ≤ s ∧ s ≤ 1073741824 ∧ 0 ≤ p ∧ p ≤ 10000)
set_option maxHeartbeats 2000000 in
theorem fleece_any (w : World) (k0 k1 k2 k3 x y : Int) : Calls Try.prog 98 #[.agg #[.int .u8 k0, .int .u8 k1, .int .u8 k2, .int .u8 k3, .int .i64 x, .int .i64 y]] w fun e w' => e = .returned (.bool (flOK ⟨k0, k1, k2, k3, x, y⟩)) ∧ Below w.heap.size w w' := by
  have HB := Aside0.mk (below_alloc (Below.refl w.heap.size w) (.cells #[.int .u8 k0, .int .u8 k1, .int .u8 k2, .int .u8 k3, .int .i64 x, .int .i64 y] 44))
  have b0 := Blk.new w [.int .u8 k0, .int .u8 k1, .int .u8 k2, .int .u8 k3, .int .i64 x, .int .i64 y] 44
  have c4 := b0.at_ (i := 4) rfl
  have c5 := b0.at_ (i := 5) rfl
  clear b0
  by_cases h0 : 1 ≤ x
  · have d0 : decide (1 ≤ x) = true := decide_eq_true h0
    by_cases h1 : x ≤ 10000
    · have d1 : decide (x ≤ 10000) = true := decide_eq_true h1
      by_cases h2 : 1 ≤ y
      · have d2 : decide (1 ≤ y) = true := decide_eq_true h2
        by_cases h3 : y ≤ 1073741824
        · have d3 : decide (y ≤ 1073741824) = true := decide_eq_true h3
          go_enter Try.func98, Try.ntmps98
          go_wp2_with fail
          go_ret
          exact ⟨ret_bool (by simp [flOK]; omega), HB.out⟩
        · have d3 : decide (y ≤ 1073741824) = false := decide_eq_false h3
          go_enter Try.func98, Try.ntmps98
          go_wp2_with fail
          go_ret
          exact ⟨ret_bool (by simp [flOK]; omega), HB.out⟩
      · have d2 : decide (1 ≤ y) = false := decide_eq_false h2
        go_enter Try.func98, Try.ntmps98
        go_wp2_with fail
        go_ret
        exact ⟨ret_bool (by simp [flOK]; omega), HB.out⟩
    · have d1 : decide (x ≤ 10000) = false := decide_eq_false h1
      go_enter Try.func98, Try.ntmps98
      go_wp2_with fail
      go_ret
      exact ⟨ret_bool (by simp [flOK]; omega), HB.out⟩
  · have d0 : decide (1 ≤ x) = false := decide_eq_false h0
    go_enter Try.func98, Try.ntmps98
    go_wp2_with fail
    go_ret
    exact ⟨ret_bool (by simp [flOK]; omega), HB.out⟩
set_option maxHeartbeats 2000000 in
theorem spec_any (w : World) (l s p : Int) : Calls Try.prog 95 #[.agg #[.int .i64 l, .int .i64 s, .int .i64 p]] w fun e w' => e = .returned (.bool (spOK l s p)) ∧ Below w.heap.size w w' := by
  have HB := Aside0.mk (below_alloc (Below.refl w.heap.size w) (.cells #[.int .i64 l, .int .i64 s, .int .i64 p] 24))
  have b0 := Blk.new w [.int .i64 l, .int .i64 s, .int .i64 p] 24
  have c4 := b0.at_ (i := 0) rfl
  have c5 := b0.at_ (i := 1) rfl
  have c6 := b0.at_ (i := 2) rfl
  clear b0
  by_cases h0 : 1 ≤ l
  · have d0 : decide (1 ≤ l) = true := decide_eq_true h0
    by_cases h1 : l ≤ 16
    · have d1 : decide (l ≤ 16) = true := decide_eq_true h1
      by_cases h2 : 0 ≤ s
      · have d2 : decide (0 ≤ s) = true := decide_eq_true h2
        by_cases h3 : s ≤ 1073741824
        · have d3 : decide (s ≤ 1073741824) = true := decide_eq_true h3
          by_cases h4 : 0 ≤ p
          · have d4 : decide (0 ≤ p) = true := decide_eq_true h4
            by_cases h5 : p ≤ 10000
            · have d5 : decide (p ≤ 10000) = true := decide_eq_true h5
              go_enter Try.func95, Try.ntmps95
              go_wp2_with fail
              go_ret
              exact ⟨ret_bool (by simp [spOK]; omega), HB.out⟩
            · have d5 : decide (p ≤ 10000) = false := decide_eq_false h5
              go_enter Try.func95, Try.ntmps95
              go_wp2_with fail
              go_ret
              exact ⟨ret_bool (by simp [spOK]; omega), HB.out⟩
          · have d4 : decide (0 ≤ p) = false := decide_eq_false h4
            go_enter Try.func95, Try.ntmps95
            go_wp2_with fail
            go_ret
            exact ⟨ret_bool (by simp [spOK]; omega), HB.out⟩
        · have d3 : decide (s ≤ 1073741824) = false := decide_eq_false h3
          go_enter Try.func95, Try.ntmps95
          go_wp2_with fail
          go_ret
          exact ⟨ret_bool (by simp [spOK]; omega), HB.out⟩
      · have d2 : decide (0 ≤ s) = false := decide_eq_false h2
        go_enter Try.func95, Try.ntmps95
        go_wp2_with fail
        go_ret
        exact ⟨ret_bool (by simp [spOK]; omega), HB.out⟩
    · have d1 : decide (l ≤ 16) = false := decide_eq_false h1
      go_enter Try.func95, Try.ntmps95
      go_wp2_with fail
      go_ret
      exact ⟨ret_bool (by simp [spOK]; omega), HB.out⟩
  · have d0 : decide (1 ≤ l) = false := decide_eq_false h0
    go_enter Try.func95, Try.ntmps95
    go_wp2_with fail
    go_ret
    exact ⟨ret_bool (by simp [spOK]; omega), HB.out⟩
end Go.Proofs.Ythkfahkkcjagdaa
