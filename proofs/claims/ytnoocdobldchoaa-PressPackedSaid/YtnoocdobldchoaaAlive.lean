/- The closed example of the layer comes to true. -/
import Derived.Test.YtnoocdobldchoaaSq5
import Derived.Test.YtnoocdobldchoaaPkT3
namespace Go.Proofs.Ytnoocdobldchoaa
open Go.RowKit Go.Proofs.YtnoocdobldchoaaW.PrintWords Go.Proofs.YtnoocdobldchoaaW.PrintMore Go.Proofs.YtnoocdobldchoaaW.PrintLast

theorem Blk.pairs_C {w : World} {g : Nat} {xs : List (Int × Int)} {t : TypeId} (h : Blk w g (flat xs) t) (hl : xs.length ≤ 9223372036854775807) : kP.C w (some ⟨g, 0, none⟩) xs.length xs := by
  refine ⟨rfl, hl, fun _ => ⟨_, rfl, fun j p hp => ⟨[.int .i64 p.1, .int .i64 p.2], rfl, kP_mk _ _, fun i u hi => ?_⟩⟩⟩
  have hj : j < xs.length := (List.getElem?_eq_some_iff.1 hp).1
  rw [add_plain]
  show w.cell? ⟨g, j * 2 + i, none⟩ = _
  have e : xs.getD j (0, 0) = p := by rw [List.getD_eq_getElem?_getD, hp]; rfl
  match i, hi with
  | 0, hi =>
    simp only [List.getElem?_cons_zero, Option.some.injEq] at hi
    subst hi
    have := h.at_ (flat_get0 xs j hj)
    rwa [e] at this
  | 1, hi =>
    simp only [List.getElem?_cons_succ, List.getElem?_cons_zero, Option.some.injEq] at hi
    subst hi
    have := h.at_ (flat_get1 xs j hj)
    rwa [e] at this
  | i + 2, hi => simp at hi

def D3 : List (Int × Int) := [(3, 2), (1, 4), (2, 2)]
def M5 : List Int := [6, 4, 4, 3, 3]
theorem alive_seq (W : World) (g0 : Nat) (hb : Blk W g0 (flat D3) 55) : Calls Try.prog 33 #[.slice (some ⟨g0, 0, none⟩) 3 3] W fun e w' => ∃ g : Nat, e = .returned (.tuple #[.slice (some ⟨g, 0, none⟩) 3 3, .int .i64 9, .int .i64 0]) ∧ Below W.heap.size W w' ∧ Blk w' g (ints [1, 2, 0]) 3 := by
  have h : Calls Try.prog 33 #[.slice (some ⟨g0, 0, none⟩) 3 3] W (SeqPost D3 W) := seq_any W (some ⟨g0, 0, none⟩) 3 D3 (hb.pairs_C (by decide)) (fun b g I _ => sortsFew _ (by decide))
  refine h.mono ?_
  rintro e w' ⟨h1, h2⟩
  have e0 : dumpsE D3 = 0 := by decide
  rw [if_pos e0] at h2
  obtain ⟨g, h3, h4⟩ := h2
  have e1 : srt (jcf D3) (upto D3.length) = [1, 2, 0] := by decide
  rw [e1] at h3 h4
  have e2 : spanF D3 [1, 2, 0] = 9 := by decide
  rw [e2] at h3
  exact ⟨g, h3, h1, h4⟩
theorem alive_pack (W : World) (g0 : Nat) (hb : Blk W g0 (ints M5) 3) : Calls Try.prog 17 #[.slice (some ⟨g0, 0, none⟩) 5 5, .int .i64 10, .int .i64 2] W fun e w' => ∃ g : Nat, e = .returned (.tuple #[.slice (some ⟨g, 0, none⟩) 5 5, .int .i64 3, .int .i64 0]) ∧ Below W.heap.size W w' ∧ Blk w' g (ints [0, 0, 1, 1, 2]) 3 := by
  have h : Calls Try.prog 17 #[.slice (some ⟨g0, 0, none⟩) 5 5, .int .i64 10, .int .i64 2] W (PackPost M5 10 2 W) := pack_any W (some ⟨g0, 0, none⟩) 5 M5 10 2 (hb.ints_C (by decide)) pack_hex
  refine h.mono ?_
  rintro e w' ⟨h1, h2⟩
  have e0 : thingsE M5 10 2 = 0 := by decide
  rw [if_pos e0] at h2
  obtain ⟨g, n, l, h3, h4, h5, h6, h7, _⟩ := h2
  have e1 : boundF M5 10 = 2 := by decide
  rw [e1] at h3 h4
  have d2 : dfs 10 2 ((2 : Nat) : Int) M5 0 no12 = none := by decide +kernel
  have d3 : dfs 10 2 ((3 : Nat) : Int) M5 0 no12 = some [0, 0, 1, 1, 2] := by decide +kernel
  have hn : n = 3 := by
    rcases Nat.lt_trichotomy n 3 with h | h | h
    · have : n = 2 := by omega
      subst this
      rw [d2] at h5; simp at h5
    · exact h
    · have := h4 3 (by omega) h
      rw [d3] at this; simp at this
  subst hn
  rw [d3] at h5
  injection h5 with h5
  subst h5
  exact ⟨g, h6, h1, h7⟩
theorem same_yes (W : World) (g g' : Nat) (xs : List Int) (h : Blk W g (ints xs) 3) (k : Blk W g' (ints xs) 3) (hl : xs.length ≤ 1000) : Calls Try.prog 19 #[.slice (some ⟨g, 0, none⟩) xs.length xs.length, .slice (some ⟨g', 0, none⟩) xs.length xs.length] W fun e w' => e = .returned (.bool true) ∧ Below W.heap.size W w' :=
  (same_any W _ _ _ _ xs xs (h.ints_C (by omega)) (k.ints_C (by omega))).mono (fun e w' ⟨h1, h2⟩ => ⟨by rw [h1]; simp, h2⟩)

set_option maxHeartbeats 4000000 in
theorem alive_any (w : World) : Calls Try.prog 15 #[] w fun e w' => e = .returned (.bool true) ∧ Below w.heap.size w w' := by
  have hs : Calls Try.prog 33 #[.slice (some ⟨w.heap.size, 0, none⟩) 3 3] (w.alloc (.cells #[.int .i64 3, .int .i64 2, .int .i64 1, .int .i64 4, .int .i64 2, .int .i64 2] 55)) fun e w' => ∃ g : Nat, e = .returned (.tuple #[.slice (some ⟨g, 0, none⟩) 3 3, .int .i64 9, .int .i64 0]) ∧ Below (w.alloc (.cells #[.int .i64 3, .int .i64 2, .int .i64 1, .int .i64 4, .int .i64 2, .int .i64 2] 55)).heap.size (w.alloc (.cells #[.int .i64 3, .int .i64 2, .int .i64 1, .int .i64 4, .int .i64 2, .int .i64 2] 55)) w' ∧ Blk w' g (ints [1, 2, 0]) 3 := alive_seq _ _ (Blk.new w (flat D3) 55)
  have hb0 := below_alloc (Below.refl w.heap.size w) (.cells #[.int .i64 3, .int .i64 2, .int .i64 1, .int .i64 4, .int .i64 2, .int .i64 2] 55)
  have HS := Aside0.mk hs; clear hs
  have HB0 := Aside0.mk hb0; clear hb0
  go_enter Try.func15, Try.ntmps15
  go_upto_region 2 with ((with_reducible refine HS.out.mono ?_); rintro e5 w5 ⟨g, rfl, hb5, hg5⟩; have H5 := Aside0.mk (And.intro hb5 hg5); clear hb5 hg5)
  obtain ⟨hb5, hg5⟩ := H5.out
  have B5 := Aside0.mk (below_step HB0.out hb5)
  have hs : Calls Try.prog 17 #[.slice (some ⟨w5.heap.size, 0, none⟩) 5 5, .int .i64 10, .int .i64 2] (w5.alloc (.cells #[.int .i64 6, .int .i64 4, .int .i64 4, .int .i64 3, .int .i64 3] 3)) fun e w' => ∃ g : Nat, e = .returned (.tuple #[.slice (some ⟨g, 0, none⟩) 5 5, .int .i64 3, .int .i64 0]) ∧ Below (w5.alloc (.cells #[.int .i64 6, .int .i64 4, .int .i64 4, .int .i64 3, .int .i64 3] 3)).heap.size (w5.alloc (.cells #[.int .i64 6, .int .i64 4, .int .i64 4, .int .i64 3, .int .i64 3] 3)) w' ∧ Blk w' g (ints [0, 0, 1, 1, 2]) 3 := alive_pack _ _ (Blk.new w5 (ints M5) 3)
  have hb6 := below_alloc B5.out (.cells #[.int .i64 6, .int .i64 4, .int .i64 4, .int .i64 3, .int .i64 3] 3)
  have g6 := hg5.alloc (.cells #[.int .i64 6, .int .i64 4, .int .i64 4, .int .i64 3, .int .i64 3] 3)
  have HB6 := Aside0.mk hb6; clear hb6
  have HG6 := Aside0.mk g6; clear g6 hb5 hg5 HS H5
  have HS := Aside0.mk hs; clear hs
  go_upto_region 3 with ((with_reducible refine HS.out.mono ?_); rintro e7 w7 ⟨g7, rfl, hb7, hg7⟩; have H7 := Aside0.mk (And.intro hb7 hg7); clear hb7 hg7)
  obtain ⟨hb7, hg7⟩ := H7.out
  have B7 := Aside0.mk (below_step HB6.out hb7)
  have G7 := Aside0.mk (HG6.out.below hb7)
  have hs8 : Calls Try.prog 19 #[.slice (some ⟨g, 0, none⟩) 3 3, .slice (some ⟨w7.heap.size, 0, none⟩) 3 3] (w7.alloc (.cells #[.int .i64 1, .int .i64 2, .int .i64 0] 3)) fun e w' => e = .returned (.bool true) ∧ Below (w7.alloc (.cells #[.int .i64 1, .int .i64 2, .int .i64 0] 3)).heap.size (w7.alloc (.cells #[.int .i64 1, .int .i64 2, .int .i64 0] 3)) w' := same_yes _ g w7.heap.size [1, 2, 0] (G7.out.alloc _) (Blk.new w7 (ints [1, 2, 0]) 3) (by decide)
  have hb8 := below_alloc B7.out (.cells #[.int .i64 1, .int .i64 2, .int .i64 0] 3)
  have g8 := hg7.alloc (.cells #[.int .i64 1, .int .i64 2, .int .i64 0] 3)
  have HB8 := Aside0.mk hb8; clear hb8
  have HG8 := Aside0.mk g8; clear g8 hb7 hg7 HS H7
  have HS8 := Aside0.mk hs8; clear hs8
  have hs9 : ∀ W : World, Blk W g7 (ints [0, 0, 1, 1, 2]) 3 → Calls Try.prog 19 #[.slice (some ⟨g7, 0, none⟩) 5 5, .slice (some ⟨W.heap.size, 0, none⟩) 5 5] (W.alloc (.cells #[.int .i64 0, .int .i64 0, .int .i64 1, .int .i64 1, .int .i64 2] 3)) fun e w' => e = .returned (.bool true) ∧ Below (W.alloc (.cells #[.int .i64 0, .int .i64 0, .int .i64 1, .int .i64 1, .int .i64 2] 3)).heap.size (W.alloc (.cells #[.int .i64 0, .int .i64 0, .int .i64 1, .int .i64 1, .int .i64 2] 3)) w' := fun W h => same_yes _ g7 W.heap.size [0, 0, 1, 1, 2] (h.alloc _) (Blk.new W (ints [0, 0, 1, 1, 2]) 3) (by decide)
  have HS9 := Aside0.mk hs9; clear hs9
  go_wp2_with (first | ((with_reducible refine HS8.out.mono ?_); rintro e9 w9 ⟨rfl, hb9⟩; have H9 := Aside0.mk (And.intro (HG8.out.below hb9) (below_step HB8.out hb9)); clear hb9) | ((with_reducible refine (HS9.out _ H9.out.1).mono ?_); rintro e10 w10 ⟨rfl, hb10⟩; have H10 := Aside0.mk (below_step (below_alloc H9.out.2 _) hb10); clear hb10))
  go_ret
  exact ⟨rfl, H10.out⟩
end Go.Proofs.Ytnoocdobldchoaa
