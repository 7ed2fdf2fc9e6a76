/- The walk through the check of a packing. -/
import Derived.Test.YtnoocdobldchoaaPd1
import Derived.Test.YtnoocdobldchoaaSq2
namespace Go.Proofs.Ytnoocdobldchoaa
open Go.RowKit Go.Proofs.YtnoocdobldchoaaW.PrintWords Go.Proofs.YtnoocdobldchoaaW.PrintMore Go.Proofs.YtnoocdobldchoaaW.PrintLast

/-- The loads and the counts, as lists. -/
def loads (f : Nat → Int × Int) (n : Nat) : List Int := (List.range n).map fun j => (f j).1
def counts (f : Nat → Int × Int) (n : Nat) : List Int := (List.range n).map fun j => (f j).2
theorem loads_length (f : Nat → Int × Int) (n : Nat) : (loads f n).length = n := by simp [loads]
theorem counts_length (f : Nat → Int × Int) (n : Nat) : (counts f n).length = n := by simp [counts]
theorem loads_get (f : Nat → Int × Int) {n i : Nat} (h : i < n) : (loads f n).getD i 0 = (f i).1 := by
  simp [loads, List.getD_eq_getElem?_getD, h]
theorem counts_get (f : Nat → Int × Int) {n i : Nat} (h : i < n) : (counts f n).getD i 0 = (f i).2 := by
  simp [counts, List.getD_eq_getElem?_getD, h]
theorem loads_set (f : Nat → Int × Int) (n b : Nat) (m : Int) : (loads f n).set b ((f b).1 + m) = loads (put f b m) n := by
  apply List.ext_getElem (by simp [loads])
  intro i h1 h2
  simp only [loads, List.length_set, List.length_map, List.length_range] at h1 h2
  rw [List.getElem_set]
  simp only [loads, List.getElem_map, List.getElem_range, put]
  by_cases h : b = i
  · subst h; rw [if_pos rfl, if_pos rfl]
  · rw [if_neg h, if_neg (fun e => h e.symm)]
theorem counts_set (f : Nat → Int × Int) (n b : Nat) (m : Int) : (counts f n).set b ((f b).2 + 1) = counts (put f b m) n := by
  apply List.ext_getElem (by simp [counts])
  intro i h1 h2
  simp only [counts, List.length_set, List.length_map, List.length_range] at h1 h2
  rw [List.getElem_set]
  simp only [counts, List.getElem_map, List.getElem_range, put]
  by_cases h : b = i
  · subst h; rw [if_pos rfl, if_pos rfl]
  · rw [if_neg h, if_neg (fun e => h e.symm)]
theorem loads_zf (n : Nat) : loads zf n = List.replicate n 0 := by
  apply List.ext_getElem (by simp [loads])
  intro i h1 h2
  simp [loads, zf]
theorem counts_zf (n : Nat) : counts zf n = List.replicate n 0 := by
  apply List.ext_getElem (by simp [counts])
  intro i h1 h2
  simp [counts, zf]

theorem packedF_short {ms at' : List Int} {most each : Int} (h : at'.length ≠ ms.length) : packedF ms at' most each = (0, false) := by unfold packedF; rw [if_pos h]
theorem packedF_none {ms at' : List Int} {most each : Int} (h : at'.length = ms.length) (hs : scanF most each at'.length ms at' zf 0 = none) : packedF ms at' most each = (0, false) := by
  unfold packedF; rw [if_neg (by omega), hs]
theorem packedF_some {ms at' : List Int} {most each : Int} {f : Nat → Int × Int} {n : Int} (h : at'.length = ms.length) (hs : scanF most each at'.length ms at' zf 0 = some (f, n)) : packedF ms at' most each = if fullB f n = true then (n, true) else (0, false) := by
  unfold packedF; rw [if_neg (by omega), hs]
/-- What lies in memory while the packing is checked. -/
structure PL (N gl gc L : Nat) (f1 f2 : Nat → Int × Int) (w0 w : World) : Prop where
  l : Blk w gl (ints (loads f1 L)) 3
  c : Blk w gc (ints (counts f2 L)) 3
  b : Below N w0 w
theorem PL.rl {N gl gc L : Nat} {f1 f2 : Nat → Int × Int} {w0 w : World} (h : PL N gl gc L f1 f2 w0 w) (b : Int) (h0 : 0 ≤ b) (h1 : b < L) {x : Int} (hx : x = (f1 b.toNat).1) : w.cell? ⟨gl, b.toNat, none⟩ = some (.int .i64 x) := by
  have a := h.l.at_ (ints_get _ (show b.toNat < (loads f1 L).length by rw [loads_length]; omega))
  rw [loads_get f1 (by omega), ← hx] at a
  exact a
theorem PL.rc {N gl gc L : Nat} {f1 f2 : Nat → Int × Int} {w0 w : World} (h : PL N gl gc L f1 f2 w0 w) (b : Int) (h0 : 0 ≤ b) (h1 : b < L) {x : Int} (hx : x = (f2 b.toNat).2) : w.cell? ⟨gc, b.toNat, none⟩ = some (.int .i64 x) := by
  have a := h.c.at_ (ints_get _ (show b.toNat < (counts f2 L).length by rw [counts_length]; omega))
  rw [counts_get f2 (by omega), ← hx] at a
  exact a
theorem PL.sl {N gl gc L : Nat} {f1 f2 : Nat → Int × Int} {w0 w : World} (h : PL N gl gc L f1 f2 w0 w) (hN : N ≤ gl ∧ N ≤ gc ∧ gl ≠ gc) (b : Int) {x m : Int} (hx : x = (f1 b.toNat).1) : PL N gl gc L (put f1 b.toNat m) f2 w0 (w.setCell ⟨gl, b.toNat, none⟩ (.int .i64 (x + m))).drew := by
  refine ⟨?_, (h.c.far (fun e => hN.2.2 e.symm) _).drew, below_drew (h.b.setCell hN.1 _)⟩
  have a := h.l.set b.toNat (.int .i64 (x + m))
  rw [ints_set, hx, loads_set] at a
  rw [hx]
  exact a.drew
theorem PL.sc {N gl gc L : Nat} {f1 f2 : Nat → Int × Int} {w0 w : World} (h : PL N gl gc L f1 f2 w0 w) (hN : N ≤ gl ∧ N ≤ gc ∧ gl ≠ gc) (b : Int) {x : Int} (m : Int) (hx : x = (f2 b.toNat).2) : PL N gl gc L f1 (put f2 b.toNat m) w0 (w.setCell ⟨gc, b.toNat, none⟩ (.int .i64 (x + 1))) := by
  refine ⟨h.l.far hN.2.2 _, ?_, h.b.setCell hN.2.1 _⟩
  have a := h.c.set b.toNat (.int .i64 (x + 1))
  rw [ints_set, hx, counts_set f2 L b.toNat m] at a
  rw [hx]
  exact a
theorem PL.start {N gl gc L : Nat} {w0 w : World} (h1 : w.heap[gl]? = some (.cells (madeCells #[.int .i64 0] L) 3 (0, 0))) (h2 : w.heap[gc]? = some (.cells (madeCells #[.int .i64 0] L) 3 (0, 0))) (hb : Below N w0 w) : PL N gl gc L zf zf w0 w := by
  rw [made_ints] at h1 h2
  exact ⟨by rw [loads_zf]; exact h1, by rw [counts_zf]; exact h2, hb⟩
theorem scan_step {ms at' : List Int} {most each L n i : Int} {f : Nat → Int × Int} (h0 : 0 ≤ i) (hm : i < ms.length) (ha : i < at'.length) :
    scanF most each L (ms.drop i.toNat) (at'.drop i.toNat) f n = if rd at' i < 0 ∨ L ≤ rd at' i then none else if most < (f (rd at' i).toNat).1 + rd ms i ∨ each < (f (rd at' i).toNat).2 + 1 then none else scanF most each L (ms.drop (i + 1).toNat) (at'.drop (i + 1).toNat) (put f (rd at' i).toNat (rd ms i)) (max n (rd at' i + 1)) := by
  rw [drop_rd ms i h0 hm, drop_rd at' i h0 ha, scanF]
theorem put_self (f : Nat → Int × Int) (b : Nat) (m : Int) : put f b m b = ((f b).1 + m, (f b).2 + 1) := by unfold put; rw [if_pos rfl]
def FR (f : Nat → Int × Int) : Prop := ∀ j, (0 ≤ (f j).1 ∧ (f j).1 ≤ 1073741824) ∧ 0 ≤ (f j).2 ∧ (f j).2 ≤ 12
theorem FR.put {f : Nat → Int × Int} (h : FR f) (b : Nat) {m : Int} (h1 : 0 ≤ (f b).1 + m) (h2 : (f b).1 + m ≤ 1073741824) (h3 : (f b).2 + 1 ≤ 12) : FR (put f b m) := by
  intro j
  have a := h j
  have c := h b
  unfold Go.Proofs.Ytnoocdobldchoaa.put
  split
  · dsimp only; omega
  · exact a

set_option maxRecDepth 100000 in
set_option maxHeartbeats 4000000 in
theorem packed_any (w : World) (A B : Option Addr) (c d : Nat) (ms at' : List Int) (most each : Int) (h : (Kd.int .i64).C w A ms.length ms) (k : (Kd.int .i64).C w B at'.length at') (hms : MOK ms) (hm : 1 ≤ most ∧ most ≤ 1073741824) (he : 1 ≤ each ∧ each ≤ 12) :
    Calls Try.prog 22 #[.slice A ms.length c, .slice B at'.length d, .int .i64 most, .int .i64 each] w fun e w' => e = .returned (.tuple #[.int .i64 (packedF ms at' most each).1, .bool (packedF ms at' most each).2]) ∧ Below w.heap.size w w' := by
  have hl := Kd.C_max h
  have hl2 := Kd.C_max k
  by_cases hlen : at'.length ≠ ms.length
  · have g0 : ((at'.length : Int) == (ms.length : Int)) = false := by simp; omega
    have HF := Aside0.mk (packedF_short (most := most) (each := each) hlen)
    clear h k hms hm he
    go_enter Try.func22, Try.ntmps22
    go_wp2_with fail
    go_ret2
    rw [HF.out]
    exact ⟨rfl, Below.refl _ _⟩
  have hlen : at'.length = ms.length := by omega
  have hl12 := hms.1
  have hL : at'.length ≤ 12 := by omega
  have mk1 := print_make (P := Try.prog) 22 3 .i64 8 Try.underlying22 info3 (by decide) at'.length (by omega)
  have HR := Aside0.mk (And.intro h k)
  have HM := Aside0.mk hms
  obtain ⟨hm0, hm1⟩ := hm
  obtain ⟨he0, he1⟩ := he
  clear h k hms hl hl2 hl12
  have HL := Aside0.mk hlen
  rw [← hlen]
  clear hlen
  go_enter Try.func22, Try.ntmps22
  go_upto_region 3 with fail
  go_cut [10, 11] from 20 to 25 (fun a b w1 => ∃ gl gc : Nat, a = .slice (some ⟨gl, 0, none⟩) at'.length at'.length ∧ b = .slice (some ⟨gc, 0, none⟩) at'.length at'.length ∧ Aside0 (w.heap.size ≤ gl ∧ w.heap.size ≤ gc ∧ gl ≠ gc) ∧ Aside0 (PL w.heap.size gl gc at'.length zf zf w w1))
  case first =>
    go_region
    all_goals go_wp2_with fail
    all_goals go_meet
    all_goals (case rel => exact ⟨_, _, rfl, rfl, ⟨by omega, by omega, by omega⟩, ⟨PL.start (by first | exact h2_0 .. | exact h2_1 ..) (by first | exact h2_0 .. | exact h2_1 ..) (h2_b ..)⟩⟩)
  case rest =>
  obtain ⟨gl, gc, rfl, rfl, HN, H0⟩ := hcut
  clear mk1
  go_wp2_with fail
  go_loopw [12, 13] (fun vn vi wr => ∃ (n i : Int) (f : Nat → Int × Int), vn = .int .i64 n ∧ vi = .int .i64 i ∧ 0 ≤ i ∧ i ≤ at'.length ∧ 0 ≤ n ∧ n ≤ at'.length ∧ Aside0 (PL w.heap.size gl gc at'.length f f w wr) ∧ Aside0 (scanF most each at'.length (ms.drop i.toNat) (at'.drop i.toNat) f n = scanF most each at'.length ms at' zf 0) ∧ Aside0 (FR f)) (fun _ vi _ => at'.length - (intOf vi).toNat)
  case atStart => exact ⟨0, 0, zf, rfl, rfl, by omega, by omega, by omega, by omega, H0, ⟨rfl⟩, ⟨fun j => by simp [zf]⟩⟩
  case round =>
    obtain ⟨n, i, f, rfl, rfl, h0, h1, hn0, hn1, HP, HS, HF⟩ := hrel
    by_cases hlt : i < at'.length
    · have hltm : i < ms.length := by have := HL.out; omega
      obtain ⟨ad, e1, g1⟩ := Kd.at_int (Kd.C_below HR.out.1 HP.out.b) i h0 hltm
      obtain ⟨ad2, e2, g2⟩ := Kd.at_int (Kd.C_below HR.out.2 HP.out.b) i h0 hlt
      subst e1
      subst e2
      have HC1 := Aside0.mk (fun W (hW : Below w.heap.size w W) => by
        obtain ⟨a, e, g⟩ := Kd.at_int (Kd.C_below HR.out.1 hW) i h0 hltm
        cases e; exact g)
      have HC2 := Aside0.mk (fun W (hW : Below w.heap.size w W) => by
        obtain ⟨a, e, g⟩ := Kd.at_int (Kd.C_below HR.out.2 hW) i h0 hlt
        cases e; exact g)
      have HST := Aside0.mk (HS.out.symm.trans (scan_step h0 hltm hlt))
      have hmb := HM.out.at_ i h0 hltm
      obtain ⟨b, hb⟩ : ∃ z, z = rd at' i := ⟨_, rfl⟩
      obtain ⟨m, hm⟩ : ∃ z, z = rd ms i := ⟨_, rfl⟩
      rw [← hm] at hmb g1
      rw [← hb] at g2
      have HBM := Aside0.mk (And.intro hb hm)
      clear hb hm HS hltm
      obtain ⟨hmb0, hmb1⟩ := hmb
      by_cases hbn : b < 0
      · have d1 : decide (b < 0) = true := decide_eq_true hbn
        have HZ : Aside0 (packedF ms at' most each = (0, false)) := ⟨packedF_none HL.out (by rw [HST.out, ← HBM.out.1, if_pos (.inl hbn)])⟩
        go_wp2_with fail
        go_ret2
        rw [HZ.out]
        exact ⟨rfl, HP.out.b⟩
      by_cases hbl : at'.length ≤ b
      · have d1 : decide (b < 0) = false := decide_eq_false hbn
        have d2 : decide ((at'.length : Int) ≤ b) = true := decide_eq_true hbl
        have HZ : Aside0 (packedF ms at' most each = (0, false)) := ⟨packedF_none HL.out (by rw [HST.out, ← HBM.out.1, if_pos (.inr hbl)])⟩
        go_wp2_with fail
        go_ret2
        rw [HZ.out]
        exact ⟨rfl, HP.out.b⟩
      have hb0 : 0 ≤ b := by omega
      have hb1 : b < at'.length := by omega
      have d1 : decide (b < 0) = false := decide_eq_false hbn
      have d2 : decide ((at'.length : Int) ≤ b) = false := decide_eq_false hbl
      obtain ⟨x, hx⟩ : ∃ z, z = (f b.toNat).1 := ⟨_, rfl⟩
      obtain ⟨y, hy⟩ : ∃ z, z = (f b.toNat).2 := ⟨_, rfl⟩
      have hr := HF.out b.toNat
      rw [← hx, ← hy] at hr
      obtain ⟨⟨hx0, hx1⟩, hy0, hy1⟩ := hr
      have c1 := HP.out.rl b hb0 hb1 hx
      have c2 := HP.out.rc b hb0 hb1 hy
      have r1 := HP.out.l.free b.toNat
      have HXY := Aside0.mk (And.intro hx hy)
      clear hx hy
      go_upto_region 10 with fail
      go_cut [12] from 46 to 58 (fun v w1 => v = .int .i64 n ∧ Aside0 (PL w.heap.size gl gc at'.length (put f b.toNat m) f w w1))
      case first =>
        go_region
        all_goals go_wp2_with fail
        all_goals go_meet
        all_goals (case rel => exact ⟨rfl, ⟨HP.out.sl HN.out b HXY.out.1⟩⟩)
      case rest =>
      obtain ⟨rfl, HP2⟩ := hcut
      obtain ⟨w2, hw2⟩ : ∃ z, z = wc := ⟨_, rfl⟩
      subst hw2
      clear g1 g2 c1 c2 r1
      have g2 := HC2.out w2 HP2.out.b
      rw [← HBM.out.1] at g2
      have c2 := HP2.out.rc b hb0 hb1 HXY.out.2
      have r2 := HP2.out.c.free b.toNat
      go_upto_region 11 with fail
      go_cut [12] from 59 to 67 (fun v w1 => v = .int .i64 n ∧ Aside0 (PL w.heap.size gl gc at'.length (put f b.toNat m) (put f b.toNat m) w w1))
      case first =>
        go_wp2_with fail
        go_meet
        case rel => exact ⟨rfl, ⟨HP2.out.sc HN.out b m HXY.out.2⟩⟩
      case rest =>
      obtain ⟨rfl, HP3⟩ := hcut
      obtain ⟨w3, hw3⟩ : ∃ z, z = wc := ⟨_, rfl⟩
      subst hw3
      clear g2 c2 r2
      have g2 := HC2.out w3 HP3.out.b
      rw [← HBM.out.1] at g2
      obtain ⟨n2, hn2⟩ : ∃ z, z = max n (b + 1) := ⟨_, rfl⟩
      have hn20 : 0 ≤ n2 := by omega
      have hn21 : n2 ≤ at'.length := by omega
      have HN2 := Aside0.mk hn2; clear hn2
      go_upto_region 12 with fail
      go_cut [12] from 68 to 74 (fun v w1 => v = .int .i64 n2 ∧ w3 = w1)
      case first =>
        by_cases hmx : n < b + 1
        · go_wp2_with fail
          go_meet
          case rel => exact ⟨by rw [HN2.out, show max n (b + 1) = b + 1 by omega], rfl⟩
        · go_wp2_with fail
          go_meet
          case rel => exact ⟨by rw [HN2.out, show max n (b + 1) = n by omega], rfl⟩
      case rest =>
      obtain ⟨rfl, rfl⟩ := hcut
      have hps := put_self f b.toNat m
      have c1 := HP3.out.rl b hb0 hb1 (x := x + m) (by rw [hps, HXY.out.1])
      have c2 := HP3.out.rc b hb0 hb1 (x := y + 1) (by rw [hps, HXY.out.2])
      clear hps
      by_cases ho1 : most < x + m
      · have d3 : decide (most < x + m) = true := decide_eq_true ho1
        have HZ : Aside0 (packedF ms at' most each = (0, false)) := ⟨packedF_none HL.out (by rw [HST.out, ← HBM.out.1, if_neg (by omega), ← HBM.out.2, ← HXY.out.1, if_pos (.inl ho1)])⟩
        go_wp2_with fail
        go_ret2
        rw [HZ.out]
        exact ⟨rfl, HP3.out.b⟩
      have d3 : decide (most < x + m) = false := decide_eq_false ho1
      by_cases ho2 : each < y + 1
      · have d4 : decide (each < y + 1) = true := decide_eq_true ho2
        have HZ : Aside0 (packedF ms at' most each = (0, false)) := ⟨packedF_none HL.out (by rw [HST.out, ← HBM.out.1, if_neg (by omega), ← HBM.out.2, ← HXY.out.1, ← HXY.out.2, if_pos (.inr ho2)])⟩
        go_wp2_with fail
        go_ret2
        rw [HZ.out]
        exact ⟨rfl, HP3.out.b⟩
      have d4 : decide (each < y + 1) = false := decide_eq_false ho2
      go_wp2_with fail
      go_roundw
      case rel =>
        refine ⟨n2, i + 1, put f b.toNat m, rfl, by go_num, by omega, by omega, hn20, hn21, HP3, ⟨?_⟩, ⟨HF.out.put b.toNat (by rw [← HXY.out.1]; omega) (by rw [← HXY.out.1]; omega) (by rw [← HXY.out.2]; omega)⟩⟩
        rw [HST.out, ← HBM.out.1, if_neg (by omega), ← HBM.out.2, ← HXY.out.1, ← HXY.out.2, if_neg (by omega), HN2.out]
      case measure => show at'.length - (i + 1).toNat < at'.length - i.toNat; omega
    · have hi : i.toNat = at'.length := by omega
      have hs := HS.out
      rw [hi, List.drop_length, List.drop_eq_nil_of_le (by have := HL.out; omega)] at hs
      have HZ := Aside0.mk (packedF_some HL.out (hs.symm.trans rfl))
      clear hs hi
      go_wp2_with fail
      go_loop [14] (fun v => ∃ j : Int, v = .int .i64 j ∧ 0 ≤ j ∧ j ≤ n ∧ Aside0 (∀ k : Nat, (k : Int) < j → (f k).2 ≠ 0)) (fun v => at'.length - (intOf v).toNat)
      case atStart => exact ⟨0, rfl, by omega, by omega, ⟨fun k hk => by omega⟩⟩
      case round =>
        obtain ⟨j, rfl, hj0, hj1, HJ⟩ := hrel
        by_cases hjn : j < n
        · obtain ⟨y, hy⟩ : ∃ z, z = (f j.toNat).2 := ⟨_, rfl⟩
          have c2 := HP.out.rc j hj0 (by omega) hy
          have HY := Aside0.mk hy; clear hy
          by_cases hy0 : y = 0
          · have HZ2 : Aside0 (packedF ms at' most each = (0, false)) := ⟨by
              rw [HZ.out, if_neg]
              unfold fullB
              rw [List.all_eq_true]
              intro h
              have := h j.toNat (List.mem_range.2 (by omega))
              rw [← HY.out, hy0] at this
              simp at this⟩
            subst hy0
            go_wp2_with fail
            go_ret2
            rw [HZ2.out]
            exact ⟨rfl, HP.out.b⟩
          · have d5 : (y == 0) = false := by simpa using hy0
            go_wp2_with fail
            go_round
            case rel =>
              refine ⟨j + 1, by go_num, by omega, by omega, ⟨fun k hk => ?_⟩⟩
              rcases (show (k : Int) < j ∨ k = j.toNat by omega) with h | h
              · exact HJ.out k h
              · rw [h, ← HY.out]; exact hy0
            case measure => show at'.length - (j + 1).toNat < at'.length - j.toNat; omega
        · have HZ2 : Aside0 (packedF ms at' most each = (n, true)) := ⟨by
            rw [HZ.out, if_pos]
            unfold fullB
            rw [List.all_eq_true]
            intro k hk
            have := HJ.out k (by have := List.mem_range.1 hk; omega)
            simp [this]⟩
          go_wp2_with fail
          go_ret2
          rw [HZ2.out]
          exact ⟨rfl, HP.out.b⟩
end Go.Proofs.Ytnoocdobldchoaa
