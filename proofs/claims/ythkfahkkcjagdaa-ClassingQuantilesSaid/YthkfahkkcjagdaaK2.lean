/- The library's swap of two blocks, and its rotation: their walks. -/
import Derived.Test.YthkfahkkcjagdaaK1
namespace Go.Proofs.Ythkfahkkcjagdaa
open Go.RowKit Go.Proofs.YthkfahkkcjagdaaW.PrintWords Go.Proofs.YthkfahkkcjagdaaW.PrintMore Go.Proofs.YthkfahkkcjagdaaW.PrintLast

theorem swap_blk {w : World} {g : Nat} {ys : List Int} (h : Blk w g (ints ys) 3) (i j : Nat) {u v : Int} (hu : u = ys.getD i 0) (hv : v = ys.getD j 0) :
    Blk ((w.setCell ⟨g, i, none⟩ (.int .i64 v)).setCell ⟨g, j, none⟩ (.int .i64 u)) g (ints (swapL ys i j)) 3 := by
  unfold swapL
  rw [← hu, ← hv, ← ints_set, ← ints_set]
  exact (h.set _ _).set _ _
theorem swap_blk2 {w : World} {g : Nat} {ys : List Int} (h : Blk w g (ints ys) 3) (i j : Nat) (hij : i ≠ j) {u v : Int} (hu : u = ys.getD i 0) (hv : v = ys.getD j 0) :
    Blk ((w.setCell ⟨g, j, none⟩ (.int .i64 u)).setCell ⟨g, i, none⟩ (.int .i64 v)) g (ints (swapL ys i j)) 3 := by
  unfold swapL
  rw [← hu, ← hv, List.set_comm _ _ hij, ← ints_set, ← ints_set]
  exact (h.set _ _).set _ _

set_option maxRecDepth 100000 in
set_option maxHeartbeats 4000000 in
theorem swapR_any (g : Nat) (xs : List Int) (w : World) (hg : Blk w g (ints xs) 3) (a b k n c : Nat) (f : Value) (hab : a < b) (hb : b + k ≤ xs.length) (hn : xs.length ≤ n) (hn2 : n ≤ 1000000) :
    Calls Try.prog 153 #[.slice (some ⟨g, 0, none⟩) n c, .int .i64 a, .int .i64 b, .int .i64 k, f] w fun e w' => e = .returned (.tuple #[]) ∧ Kp (fun i => i = g) w w' ∧ Blk w' g (ints (swapN xs a b k)) 3 := by
  have HG := Aside0.mk hg; clear hg
  go_enter Try.func153, Try.ntmps153
  go_wp2_with fail
  go_loopw [10] (fun v wr => ∃ i : Nat, v = .int .i64 i ∧ i ≤ k ∧ Aside0 (Kp (fun i => i = g) w wr) ∧ Aside0 (Blk wr g (ints (swapN xs a b i)) 3)) (fun v _ => k - (intOf v).toNat)
  case atStart => exact ⟨0, rfl, by omega, ⟨Kp.refl _ _⟩, HG⟩
  case round =>
    obtain ⟨i, rfl, hi, hk, hbk⟩ := hrel
    by_cases hlt : i < k
    · have hlti : (i : Int) < k := by omega
      obtain ⟨ys, hys⟩ : ∃ z, z = swapN xs a b i := ⟨_, rfl⟩
      have hyl : ys.length = xs.length := by rw [hys, swapN_length]
      have hb2 := hbk.out
      rw [← hys] at hb2
      obtain ⟨u, hu⟩ : ∃ z, z = ys.getD (a + i) 0 := ⟨_, rfl⟩
      obtain ⟨v, hv⟩ : ∃ z, z = ys.getD (b + i) 0 := ⟨_, rfl⟩
      have c1 : wr.cell? ⟨g, a + i, none⟩ = some (.int .i64 u) := by rw [hu]; exact hb2.at_ (ints_get _ (by omega))
      have c2 : wr.cell? ⟨g, b + i, none⟩ = some (.int .i64 v) := by rw [hv]; exact hb2.at_ (ints_get _ (by omega))
      have c1b : wr.cell? ⟨g, ((a : Int) + i).toNat, none⟩ = some (.int .i64 u) := by rw [show ((a : Int) + i).toNat = a + i by omega]; exact c1
      have c2b : wr.cell? ⟨g, ((b : Int) + i).toNat, none⟩ = some (.int .i64 v) := by rw [show ((b : Int) + i).toNat = b + i by omega]; exact c2
      have fr := hb2.free
      have hnew := swap_blk hb2 (a + i) (b + i) hu hv
      have hnew2 := swap_blk2 hb2 (a + i) (b + i) (by omega) hu hv
      have e : swapL ys (a + i) (b + i) = swapN xs a b (i + 1) := by rw [hys]; rfl
      rw [e] at hnew hnew2
      have HN := Aside0.mk (And.intro hnew hnew2)
      have h1 : (a : Int) + i < n := by omega
      have h2 : (b : Int) + i < n := by omega
      clear hnew hnew2 e hu hv hyl hys hbk hb2
      go_upto_region 3 with fail
      go_region
      all_goals go_wp2_with fail
      all_goals go_roundw
      case rel => exact ⟨i + 1, by go_num, by omega, ⟨((hk.out.setCell (fun _ => rfl) _).setCell (fun _ => rfl) _).drew⟩, (by first | exact ⟨HN.out.1.drew⟩ | exact ⟨HN.out.2.drew⟩)⟩
      case measure => simp [intOf]; omega
    · have hik : i = k := by omega
      go_wp2_with fail
      go_end0
      exact ⟨rfl, hk.out, by rw [← hik]; exact hbk.out⟩
set_option maxRecDepth 100000 in
set_option maxHeartbeats 4000000 in
theorem rotate_any (g : Nat) (xs : List Int) (w : World) (hg : Blk w g (ints xs) 3) (a m b n c : Nat) (f : Value) (h1 : a < m) (h2 : m < b) (h3 : b ≤ xs.length) (hn : xs.length ≤ n) (hn2 : n ≤ 1000000) :
    Calls Try.prog 147 #[.slice (some ⟨g, 0, none⟩) n c, .int .i64 a, .int .i64 m, .int .i64 b, f] w fun e w' => e = .returned (.tuple #[]) ∧ Kp (fun i => i = g) w w' ∧ Blk w' g (ints (rotL xs a m b)) 3 := by
  obtain ⟨P0, U0, V0, Q0, hx0, hP0, hU0, hV0, hr0⟩ := rot_split xs (Nat.le_of_lt h1) (Nat.le_of_lt h2) h3
  rw [hx0] at hg
  have HX0 := Aside0.mk (And.intro hP0 (And.intro hU0 (And.intro hV0 hr0)))
  have HLN : Aside0 ((P0 ++ (U0 ++ (V0 ++ Q0))).length = xs.length) := ⟨by rw [← hx0]⟩
  have HG := Aside0.mk hg
  clear hg hx0 hP0 hU0 hV0 hr0
  go_enter Try.func147, Try.ntmps147
  go_wp2_with fail
  go_loopw [10, 11] (fun v10 v11 wr => ∃ (i j : Nat) (P U V Q : List Int), v10 = .int .i64 i ∧ v11 = .int .i64 j ∧ 1 ≤ i ∧ 1 ≤ j ∧ i ≤ m ∧ m + j ≤ xs.length ∧ Aside0 (P.length + i = m ∧ U.length = i ∧ V.length = j ∧ P ++ (V ++ (U ++ Q)) = rotL xs a m b ∧ (P ++ (U ++ (V ++ Q))).length = xs.length) ∧ Aside0 (Kp (fun i => i = g) w wr) ∧ Aside0 (Blk wr g (ints (P ++ (U ++ (V ++ Q)))) 3)) (fun v10 v11 _ => (intOf v10).toNat + (intOf v11).toNat)
  case atStart =>
    obtain ⟨hP0, hU0, hV0, hr0⟩ := HX0.out
    exact ⟨m - a, b - m, P0, U0, V0, Q0, by rw [show ((m - a : Nat) : Int) = (m : Int) - a by omega], by rw [show ((b - m : Nat) : Int) = (b : Int) - m by omega], by omega, by omega, by omega, by omega, ⟨by omega, hU0, hV0, hr0.symm, HLN.out⟩, ⟨Kp.refl _ _⟩, HG⟩
  case round =>
    obtain ⟨i, j, P, U, V, Q, rfl, rfl, hi1, hj1, him, hjm, HF, HK, HB⟩ := hrel
    obtain ⟨hP, hU, hV, hr, hl⟩ := HF.out
    have hmi : ((m - i : Nat) : Int) = (m : Int) - i := by omega
    by_cases heq : i = j
    · have hc := swapR_any g (P ++ (U ++ (V ++ Q))) wr HB.out (m - i) m i n c f (by omega) (by omega) (by omega) hn2
      have e := swapN_all P [] Q U V (a := m - i) (b := m) (n := i) (by omega) (by omega) (by omega) (by simp; omega)
      rw [List.nil_append, List.nil_append] at e
      rw [e, hr, hmi] at hc
      have HC := Aside0.mk hc
      have hb : ((i : Int) != (j : Int)) = false := by simp; omega
      clear hc e hP hU hV hr hl HF hmi HG HX0 HLN
      have hij : (i : Int) ≤ j ∧ (j : Int) ≤ i := by omega
      clear heq
      go_wp2_with ((with_reducible refine HC.out.mono ?_); rintro e5 w5 ⟨rfl, hk5, hb5⟩; have H5 := Aside0.mk (And.intro hk5 hb5); clear hk5 hb5)
      go_end0
      exact ⟨rfl, HK.out.step H5.out.1, H5.out.2⟩
    · have hb : ((i : Int) != (j : Int)) = true := by simp; omega
      by_cases hgt : j < i
      · have hgti : (j : Int) < i := by omega
        have hUs : U = U.take j ++ U.drop j := (List.take_append_drop _ _).symm
        have e := swapN_all P (U.drop j) Q (U.take j) V (a := m - i) (b := m) (n := j) (by rw [List.length_take]; omega) (by rw [List.length_take]; omega) (by omega) (by rw [List.length_take, List.length_drop]; omega)
        have hxx : P ++ (U.take j ++ (U.drop j ++ (V ++ Q))) = P ++ (U ++ (V ++ Q)) := by rw [← List.append_assoc (U.take j), ← hUs]
        rw [hxx] at e
        have hc := swapR_any g (P ++ (U ++ (V ++ Q))) wr HB.out (m - i) m j n c f (by omega) (by omega) (by omega) hn2
        rw [e, hmi] at hc
        have HC := Aside0.mk hc
        have HNX : Aside0 ((P ++ V).length + (i - j) = m ∧ (U.drop j).length = i - j ∧ (U.take j).length = j ∧ (P ++ V) ++ (U.take j ++ (U.drop j ++ Q)) = rotL xs a m b ∧ ((P ++ V) ++ (U.drop j ++ (U.take j ++ Q))).length = xs.length) := ⟨by
          refine ⟨by rw [List.length_append]; omega, by rw [List.length_drop]; omega, by rw [List.length_take]; omega, ?_, ?_⟩
          · rw [← hr, ← List.append_assoc (U.take j), List.take_append_drop, List.append_assoc]
          · rw [← hl, ← hxx]; simp; omega⟩
        have HIJ : Aside0 (((i - j : Nat) : Int) = (i : Int) - j) := ⟨by omega⟩
        have hle : j ≤ i := by omega
        clear hc e hxx hUs hP hU hV hr hl HF hmi HG HX0 HLN heq
        go_wp2_with ((with_reducible refine HC.out.mono ?_); rintro e5 w5 ⟨rfl, hk5, hb5⟩; have H5 := Aside0.mk (And.intro hk5 hb5); clear hk5 hb5)
        go_roundw
        case rel => exact ⟨i - j, j, P ++ V, U.drop j, U.take j, Q, by rw [HIJ.out], rfl, by omega, by omega, by omega, by omega, HNX, ⟨HK.out.step H5.out.1⟩, ⟨by have := H5.out.2; simpa using this⟩⟩
        case measure => simp [intOf]; omega
      · have hlti : (i : Int) < j := by omega
        have hVs : V = V.take (j - i) ++ V.drop (j - i) := (List.take_append_drop _ _).symm
        have e := swapN_all P (V.take (j - i)) Q U (V.drop (j - i)) (a := m - i) (b := m + j - i) (n := i) (by omega) (by rw [List.length_drop]; omega) (by omega) (by rw [List.length_take]; omega)
        have hxx : P ++ (U ++ (V.take (j - i) ++ (V.drop (j - i) ++ Q))) = P ++ (U ++ (V ++ Q)) := by rw [← List.append_assoc (V.take (j - i)), ← hVs]
        rw [hxx] at e
        have hc := swapR_any g (P ++ (U ++ (V ++ Q))) wr HB.out (m - i) (m + j - i) i n c f (by omega) (by omega) (by omega) hn2
        rw [e, hmi, show ((m + j - i : Nat) : Int) = (m : Int) + j - i by omega] at hc
        have HC := Aside0.mk hc
        have HNX : Aside0 (P.length + i = m ∧ (V.drop (j - i)).length = i ∧ (V.take (j - i)).length = j - i ∧ P ++ (V.take (j - i) ++ (V.drop (j - i) ++ (U ++ Q))) = rotL xs a m b ∧ (P ++ (V.drop (j - i) ++ (V.take (j - i) ++ (U ++ Q)))).length = xs.length) := ⟨by
          refine ⟨hP, by rw [List.length_drop]; omega, by rw [List.length_take]; omega, ?_, ?_⟩
          · rw [← hr, ← List.append_assoc (V.take (j - i)), List.take_append_drop]
          · rw [← hl, ← hxx]; simp; omega⟩
        have HIJ : Aside0 (((j - i : Nat) : Int) = (j : Int) - i) := ⟨by omega⟩
        have hle : i ≤ j := by omega
        have hli : ¬ (j : Int) < i := by omega
        clear hc e hxx hVs hP hU hV hr hl HF hmi HG HX0 HLN heq
        go_wp2_with ((with_reducible refine HC.out.mono ?_); rintro e5 w5 ⟨rfl, hk5, hb5⟩; have H5 := Aside0.mk (And.intro hk5 hb5); clear hk5 hb5)
        go_roundw
        case rel => exact ⟨i, j - i, P, V.drop (j - i), V.take (j - i), U ++ Q, rfl, by rw [HIJ.out], by omega, by omega, by omega, by omega, HNX, ⟨HK.out.step H5.out.1⟩, ⟨H5.out.2⟩⟩
        case measure => simp [intOf]; omega
end Go.Proofs.Ythkfahkkcjagdaa
