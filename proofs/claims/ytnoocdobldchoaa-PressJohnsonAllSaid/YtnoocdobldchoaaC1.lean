/- What the check of a packing computes, and that it holds of exactly the packings. -/
import Derived.Test.YtnoocdobldchoaaA5
import Derived.Test.YtnoocdobldchoaaB1
import Derived.Test.YtnoocdobldchoaaB2
import Derived.BigQuiet
namespace Go.Proofs.Ytnoocdobldchoaa
open Go.RowKit Go.Proofs.YtnoocdobldchoaaW.PrintWords Go.Proofs.YtnoocdobldchoaaW.PrintMore Go.Proofs.YtnoocdobldchoaaW.PrintLast

/-! ### What the check of a packing computes, and that it holds of exactly the packings. -/
/-- One thing after another into the named box; the contents and the number of boxes. -/
def scanF (most each L : Int) : List Int → List Int → (Nat → Int × Int) → Int → Option ((Nat → Int × Int) × Int)
  | m :: ms, b :: at', f, n => if b < 0 ∨ L ≤ b then none else if most < (f b.toNat).1 + m ∨ each < (f b.toNat).2 + 1 then none else scanF most each L ms at' (put f b.toNat m) (max n (b + 1))
  | _, _, f, n => some (f, n)
/-- No box below n is empty. -/
def fullB (f : Nat → Int × Int) (n : Int) : Bool := (List.range n.toNat).all fun j => !((f j).2 == 0)
def packedF (ms at' : List Int) (most each : Int) : Int × Bool :=
  if at'.length ≠ ms.length then (0, false) else
  match scanF most each at'.length ms at' zf 0 with
  | none => (0, false)
  | some (f, n) => if fullB f n = true then (n, true) else (0, false)

variable {most each L : Int}
/-- What was scanned is a packing. -/
theorem scanF_free : ∀ (ms at' : List Int) (f : Nat → Int × Int) (n : Int) (f' : Nat → Int × Int) (n' : Int), at'.length = ms.length → scanF most each L ms at' f n = some (f', n') →
    n ≤ n' ∧ (∀ k : Int, n' ≤ k → Free most each k ms f at') ∧ (∀ b ∈ at', b < n') := by
  intro ms
  induction ms with
  | nil =>
    intro at' f n f' n' hl h
    have : at' = [] := List.eq_nil_of_length_eq_zero hl
    subst this
    unfold scanF at h
    injection h with h
    injection h with h1 h2
    exact ⟨by omega, fun _ _ => rfl, fun b hb => by simp at hb⟩
  | cons m ms ih =>
    intro at' f n f' n' hl h
    cases at' with
    | nil => simp at hl
    | cons b at' =>
      unfold scanF at h
      by_cases h1 : b < 0 ∨ L ≤ b
      · rw [if_pos h1] at h; cases h
      · rw [if_neg h1] at h
        by_cases h2 : most < (f b.toNat).1 + m ∨ each < (f b.toNat).2 + 1
        · rw [if_pos h2] at h; cases h
        · rw [if_neg h2] at h
          obtain ⟨i1, i2, i3⟩ := ih at' _ _ f' n' (by simpa using hl) h
          refine ⟨by omega, fun k hk => ⟨b.toNat, at', by rw [Int.toNat_of_nonneg (by omega)], by omega, by omega, by omega, i2 k hk⟩, fun x hx => ?_⟩
          rcases List.mem_cons.1 hx with rfl | hx
          · omega
          · exact i3 x hx
/-- A packing is scanned; each box below the bound bears something, if each new box is the lowest. -/
theorem scanF_way : ∀ (ms at' : List Int) (f : Nat → Int × Int) (n k : Int), Way most each k ms n f at' → k ≤ L → 0 ≤ n → n ≤ k → (∀ j : Nat, 0 ≤ (f j).2 ∧ ((j : Int) < n → 1 ≤ (f j).2)) →
    ∃ f' n', scanF most each L ms at' f n = some (f', n') ∧ n ≤ n' ∧ n' ≤ k ∧ ∀ j : Nat, 0 ≤ (f' j).2 ∧ ((j : Int) < n' → 1 ≤ (f' j).2) := by
  intro ms
  induction ms with
  | nil =>
    intro at' f n k h hk h0 hn hf
    have : at' = [] := h
    subst this
    exact ⟨f, n, rfl, by omega, hn, hf⟩
  | cons m ms ih =>
    intro at' f n k h hk h0 hn hf
    obtain ⟨b, l', rfl, hb1, hb2, hb3, hb4, hb5⟩ := h
    unfold scanF
    rw [if_neg (by omega), Int.toNat_natCast, if_neg (by omega)]
    obtain ⟨f', n', e1, e2, e3, e4⟩ := ih l' (put f b m) (max n (b + 1)) k hb5 hk (by omega) (by omega) (fun j => by
      have := hf j
      unfold put
      split
      · rename_i hj; subst hj; dsimp only; omega
      · rename_i hj; omega)
    exact ⟨f', n', e1, by omega, e3, e4⟩
theorem fullB_of {f : Nat → Int × Int} {n : Int} (h : ∀ j : Nat, (j : Int) < n → 1 ≤ (f j).2) : fullB f n = true := by
  unfold fullB
  rw [List.all_eq_true]
  intro j hj
  have := h j (by have := List.mem_range.1 hj; omega)
  simp only [Bool.not_eq_true', beq_eq_false_iff_ne]
  omega
/-- The best packing passes, with its own number of boxes. -/
theorem packedF_best {ms : List Int} {m : Int} {n : Nat} {l : List Int} (h : Best ms most each m n l) (he : thingsE ms most each = 0) : packedF ms l most each = (m, true) := by
  obtain ⟨k, rfl, hkl, _, _, hw, _, hmin⟩ := h.1 he
  have hl := hw.free.length
  unfold packedF
  rw [if_neg (by omega)]
  obtain ⟨f', n', e1, e2, e3, e4⟩ := scanF_way (L := (l.length : Int)) ms l zf 0 k hw (by omega) (by omega) (by omega) (fun j => ⟨by simp [zf], fun h => by omega⟩)
  rw [e1]
  dsimp only
  rw [if_pos (fullB_of fun j hj => (e4 j).2 hj)]
  have hf := (scanF_free ms l zf 0 f' n' hl e1).2.1 n' (by omega)
  have : n' = k := by
    rcases (show n' < k ∨ k ≤ n' by omega) with hlt | hge
    · have h2 := hmin n'.toNat (by omega) l
      rw [Int.toNat_of_nonneg e2] at h2
      exact absurd hf h2
    · omega
  rw [this]
/-- What passes is a packing with that number of boxes. -/
theorem packedF_free {ms at' : List Int} {n : Int} (h : packedF ms at' most each = (n, true)) : 0 ≤ n ∧ at'.length = ms.length ∧ Free most each n ms zf at' := by
  unfold packedF at h
  by_cases hl : at'.length ≠ ms.length
  · rw [if_pos hl] at h; simp at h
  · rw [if_neg hl] at h
    have hl' : at'.length = ms.length := by omega
    cases hs : scanF most each at'.length ms at' zf 0 with
    | none => rw [hs] at h; simp at h
    | some p =>
      obtain ⟨f', n'⟩ := p
      rw [hs] at h
      dsimp only at h
      by_cases hb : fullB f' n' = true
      · rw [if_pos hb] at h
        injection h with h1 _
        subst h1
        obtain ⟨i1, i2, _⟩ := scanF_free ms at' zf 0 f' n' hl' hs
        exact ⟨i1, hl', i2 _ (Int.le_refl _)⟩
      · rw [if_neg hb] at h; simp at h

/-! ### The walk through the check of a packing. -/
/-- The loads and the counts, as lists. -/
def loads (f : Nat → Int × Int) (n : Nat) : List Int := (List.range n).map fun j => (f j).1
def counts (f : Nat → Int × Int) (n : Nat) : List Int := (List.range n).map fun j => (f j).2
theorem loads_length (f : Nat → Int × Int) (n : Nat) : (loads f n).length = n := by simp [loads]
theorem counts_length (f : Nat → Int × Int) (n : Nat) : (counts f n).length = n := by simp [counts]
theorem loads_get (f : Nat → Int × Int) {n i : Nat} (h : i < n) : (loads f n).getD i 0 = (f i).1 := by
  simp [loads, List.getD_eq_getElem?_getD, h]
theorem counts_get (f : Nat → Int × Int) {n i : Nat} (h : i < n) : (counts f n).getD i 0 = (f i).2 := by
  simp [counts, List.getD_eq_getElem?_getD, h]
theorem loads_set (f : Nat → Int × Int) (n b : Nat) (m : Int) : (loads f n).set b ((f b).1 + m) = loads (put f b m) n := by
  apply List.ext_getElem (by simp [loads])
  intro i h1 h2
  simp only [loads, List.length_set, List.length_map, List.length_range] at h1 h2
  rw [List.getElem_set]
  simp only [loads, List.getElem_map, List.getElem_range, put]
  by_cases h : b = i
  · subst h; rw [if_pos rfl, if_pos rfl]
  · rw [if_neg h, if_neg (fun e => h e.symm)]
theorem counts_set (f : Nat → Int × Int) (n b : Nat) (m : Int) : (counts f n).set b ((f b).2 + 1) = counts (put f b m) n := by
  apply List.ext_getElem (by simp [counts])
  intro i h1 h2
  simp only [counts, List.length_set, List.length_map, List.length_range] at h1 h2
  rw [List.getElem_set]
  simp only [counts, List.getElem_map, List.getElem_range, put]
  by_cases h : b = i
  · subst h; rw [if_pos rfl, if_pos rfl]
  · rw [if_neg h, if_neg (fun e => h e.symm)]
theorem loads_zf (n : Nat) : loads zf n = List.replicate n 0 := by
  apply List.ext_getElem (by simp [loads])
  intro i h1 h2
  simp [loads, zf]
theorem counts_zf (n : Nat) : counts zf n = List.replicate n 0 := by
  apply List.ext_getElem (by simp [counts])
  intro i h1 h2
  simp [counts, zf]

theorem packedF_short {ms at' : List Int} {most each : Int} (h : at'.length ≠ ms.length) : packedF ms at' most each = (0, false) := by unfold packedF; rw [if_pos h]
theorem packedF_none {ms at' : List Int} {most each : Int} (h : at'.length = ms.length) (hs : scanF most each at'.length ms at' zf 0 = none) : packedF ms at' most each = (0, false) := by
  unfold packedF; rw [if_neg (by omega), hs]
theorem packedF_some {ms at' : List Int} {most each : Int} {f : Nat → Int × Int} {n : Int} (h : at'.length = ms.length) (hs : scanF most each at'.length ms at' zf 0 = some (f, n)) : packedF ms at' most each = if fullB f n = true then (n, true) else (0, false) := by
  unfold packedF; rw [if_neg (by omega), hs]
/-- What lies in memory while the packing is checked. -/
structure PL (N gl gc L : Nat) (f1 f2 : Nat → Int × Int) (w0 w : World) : Prop where
  l : Blk w gl (ints (loads f1 L)) 3
  c : Blk w gc (ints (counts f2 L)) 3
  b : Below N w0 w
theorem PL.rl {N gl gc L : Nat} {f1 f2 : Nat → Int × Int} {w0 w : World} (h : PL N gl gc L f1 f2 w0 w) (b : Int) (h0 : 0 ≤ b) (h1 : b < L) {x : Int} (hx : x = (f1 b.toNat).1) : w.cell? ⟨gl, b.toNat, none⟩ = some (.int .i64 x) := by
  have a := h.l.at_ (ints_get _ (show b.toNat < (loads f1 L).length by rw [loads_length]; omega))
  rw [loads_get f1 (by omega), ← hx] at a
  exact a
theorem PL.rc {N gl gc L : Nat} {f1 f2 : Nat → Int × Int} {w0 w : World} (h : PL N gl gc L f1 f2 w0 w) (b : Int) (h0 : 0 ≤ b) (h1 : b < L) {x : Int} (hx : x = (f2 b.toNat).2) : w.cell? ⟨gc, b.toNat, none⟩ = some (.int .i64 x) := by
  have a := h.c.at_ (ints_get _ (show b.toNat < (counts f2 L).length by rw [counts_length]; omega))
  rw [counts_get f2 (by omega), ← hx] at a
  exact a
theorem PL.sl {N gl gc L : Nat} {f1 f2 : Nat → Int × Int} {w0 w : World} (h : PL N gl gc L f1 f2 w0 w) (hN : N ≤ gl ∧ N ≤ gc ∧ gl ≠ gc) (b : Int) {x m : Int} (hx : x = (f1 b.toNat).1) : PL N gl gc L (put f1 b.toNat m) f2 w0 (w.setCell ⟨gl, b.toNat, none⟩ (.int .i64 (x + m))).drew := by
  refine ⟨?_, (h.c.far (fun e => hN.2.2 e.symm) _).drew, below_drew (h.b.setCell hN.1 _)⟩
  have a := h.l.set b.toNat (.int .i64 (x + m))
  rw [ints_set, hx, loads_set] at a
  rw [hx]
  exact a.drew
theorem PL.sc {N gl gc L : Nat} {f1 f2 : Nat → Int × Int} {w0 w : World} (h : PL N gl gc L f1 f2 w0 w) (hN : N ≤ gl ∧ N ≤ gc ∧ gl ≠ gc) (b : Int) {x : Int} (m : Int) (hx : x = (f2 b.toNat).2) : PL N gl gc L f1 (put f2 b.toNat m) w0 (w.setCell ⟨gc, b.toNat, none⟩ (.int .i64 (x + 1))) := by
  refine ⟨h.l.far hN.2.2 _, ?_, h.b.setCell hN.2.1 _⟩
  have a := h.c.set b.toNat (.int .i64 (x + 1))
  rw [ints_set, hx, counts_set f2 L b.toNat m] at a
  rw [hx]
  exact a
theorem PL.start {N gl gc L : Nat} {w0 w : World} (h1 : w.heap[gl]? = some (.cells (madeCells #[.int .i64 0] L) 3 (0, 0))) (h2 : w.heap[gc]? = some (.cells (madeCells #[.int .i64 0] L) 3 (0, 0))) (hb : Below N w0 w) : PL N gl gc L zf zf w0 w := by
  rw [made_ints] at h1 h2
  exact ⟨by rw [loads_zf]; exact h1, by rw [counts_zf]; exact h2, hb⟩
theorem scan_step {ms at' : List Int} {most each L n i : Int} {f : Nat → Int × Int} (h0 : 0 ≤ i) (hm : i < ms.length) (ha : i < at'.length) :
    scanF most each L (ms.drop i.toNat) (at'.drop i.toNat) f n = if rd at' i < 0 ∨ L ≤ rd at' i then none else if most < (f (rd at' i).toNat).1 + rd ms i ∨ each < (f (rd at' i).toNat).2 + 1 then none else scanF most each L (ms.drop (i + 1).toNat) (at'.drop (i + 1).toNat) (put f (rd at' i).toNat (rd ms i)) (max n (rd at' i + 1)) := by
  rw [drop_rd ms i h0 hm, drop_rd at' i h0 ha, scanF]
theorem put_self (f : Nat → Int × Int) (b : Nat) (m : Int) : put f b m b = ((f b).1 + m, (f b).2 + 1) := by unfold put; rw [if_pos rfl]
def FR (f : Nat → Int × Int) : Prop := ∀ j, (0 ≤ (f j).1 ∧ (f j).1 ≤ 1073741824) ∧ 0 ≤ (f j).2 ∧ (f j).2 ≤ 12
theorem FR.put {f : Nat → Int × Int} (h : FR f) (b : Nat) {m : Int} (h1 : 0 ≤ (f b).1 + m) (h2 : (f b).1 + m ≤ 1073741824) (h3 : (f b).2 + 1 ≤ 12) : FR (put f b m) := by
  intro j
  have a := h j
  have c := h b
  unfold Go.Proofs.Ytnoocdobldchoaa.put
  split
  · dsimp only; omega
  · exact a

set_option maxRecDepth 100000 in
set_option maxHeartbeats 4000000 in
theorem packed_any (w : World) (A B : Option Addr) (c d : Nat) (ms at' : List Int) (most each : Int) (h : (Kd.int .i64).C w A ms.length ms) (k : (Kd.int .i64).C w B at'.length at') (hms : MOK ms) (hm : 1 ≤ most ∧ most ≤ 1073741824) (he : 1 ≤ each ∧ each ≤ 12) :
    Calls Try.prog 22 #[.slice A ms.length c, .slice B at'.length d, .int .i64 most, .int .i64 each] w fun e w' => e = .returned (.tuple #[.int .i64 (packedF ms at' most each).1, .bool (packedF ms at' most each).2]) ∧ Below w.heap.size w w' := by
  have hl := Kd.C_max h
  have hl2 := Kd.C_max k
  by_cases hlen : at'.length ≠ ms.length
  · have g0 : ((at'.length : Int) == (ms.length : Int)) = false := by simp; omega
    have HF := Aside0.mk (packedF_short (most := most) (each := each) hlen)
    clear h k hms hm he
    go_enter Try.func22, Try.ntmps22
    go_wp2_with fail
    go_ret2
    rw [HF.out]
    exact ⟨rfl, Below.refl _ _⟩
  have hlen : at'.length = ms.length := by omega
  have hl12 := hms.1
  have hL : at'.length ≤ 12 := by omega
  have mk1 := print_make (P := Try.prog) 22 3 .i64 8 Try.underlying22 info3 (by decide) at'.length (by omega)
  have HR := Aside0.mk (And.intro h k)
  have HM := Aside0.mk hms
  obtain ⟨hm0, hm1⟩ := hm
  obtain ⟨he0, he1⟩ := he
  clear h k hms hl hl2 hl12
  have HL := Aside0.mk hlen
  rw [← hlen]
  clear hlen
  go_enter Try.func22, Try.ntmps22
  go_upto_region 3 with fail
  go_cut [10, 11] from 20 to 25 (fun a b w1 => ∃ gl gc : Nat, a = .slice (some ⟨gl, 0, none⟩) at'.length at'.length ∧ b = .slice (some ⟨gc, 0, none⟩) at'.length at'.length ∧ Aside0 (w.heap.size ≤ gl ∧ w.heap.size ≤ gc ∧ gl ≠ gc) ∧ Aside0 (PL w.heap.size gl gc at'.length zf zf w w1))
  case first =>
    go_region
    all_goals go_wp2_with fail
    all_goals go_meet
    all_goals (case rel => exact ⟨_, _, rfl, rfl, ⟨by omega, by omega, by omega⟩, ⟨PL.start (by first | exact h2_0 .. | exact h2_1 ..) (by first | exact h2_0 .. | exact h2_1 ..) (h2_b ..)⟩⟩)
  case rest =>
  obtain ⟨gl, gc, rfl, rfl, HN, H0⟩ := hcut
  clear mk1
  go_wp2_with fail
  go_loopw [12, 13] (fun vn vi wr => ∃ (n i : Int) (f : Nat → Int × Int), vn = .int .i64 n ∧ vi = .int .i64 i ∧ 0 ≤ i ∧ i ≤ at'.length ∧ 0 ≤ n ∧ n ≤ at'.length ∧ Aside0 (PL w.heap.size gl gc at'.length f f w wr) ∧ Aside0 (scanF most each at'.length (ms.drop i.toNat) (at'.drop i.toNat) f n = scanF most each at'.length ms at' zf 0) ∧ Aside0 (FR f)) (fun _ vi _ => at'.length - (intOf vi).toNat)
  case atStart => exact ⟨0, 0, zf, rfl, rfl, by omega, by omega, by omega, by omega, H0, ⟨rfl⟩, ⟨fun j => by simp [zf]⟩⟩
  case round =>
    obtain ⟨n, i, f, rfl, rfl, h0, h1, hn0, hn1, HP, HS, HF⟩ := hrel
    by_cases hlt : i < at'.length
    · have hltm : i < ms.length := by have := HL.out; omega
      obtain ⟨ad, e1, g1⟩ := Kd.at_int (Kd.C_below HR.out.1 HP.out.b) i h0 hltm
      obtain ⟨ad2, e2, g2⟩ := Kd.at_int (Kd.C_below HR.out.2 HP.out.b) i h0 hlt
      subst e1
      subst e2
      have HC1 := Aside0.mk (fun W (hW : Below w.heap.size w W) => by
        obtain ⟨a, e, g⟩ := Kd.at_int (Kd.C_below HR.out.1 hW) i h0 hltm
        cases e; exact g)
      have HC2 := Aside0.mk (fun W (hW : Below w.heap.size w W) => by
        obtain ⟨a, e, g⟩ := Kd.at_int (Kd.C_below HR.out.2 hW) i h0 hlt
        cases e; exact g)
      have HST := Aside0.mk (HS.out.symm.trans (scan_step h0 hltm hlt))
      have hmb := HM.out.at_ i h0 hltm
      obtain ⟨b, hb⟩ : ∃ z, z = rd at' i := ⟨_, rfl⟩
      obtain ⟨m, hm⟩ : ∃ z, z = rd ms i := ⟨_, rfl⟩
      rw [← hm] at hmb g1
      rw [← hb] at g2
      have HBM := Aside0.mk (And.intro hb hm)
      clear hb hm HS hltm
      obtain ⟨hmb0, hmb1⟩ := hmb
      by_cases hbn : b < 0
      · have d1 : decide (b < 0) = true := decide_eq_true hbn
        have HZ : Aside0 (packedF ms at' most each = (0, false)) := ⟨packedF_none HL.out (by rw [HST.out, ← HBM.out.1, if_pos (.inl hbn)])⟩
        go_wp2_with fail
        go_ret2
        rw [HZ.out]
        exact ⟨rfl, HP.out.b⟩
      by_cases hbl : at'.length ≤ b
      · have d1 : decide (b < 0) = false := decide_eq_false hbn
        have d2 : decide ((at'.length : Int) ≤ b) = true := decide_eq_true hbl
        have HZ : Aside0 (packedF ms at' most each = (0, false)) := ⟨packedF_none HL.out (by rw [HST.out, ← HBM.out.1, if_pos (.inr hbl)])⟩
        go_wp2_with fail
        go_ret2
        rw [HZ.out]
        exact ⟨rfl, HP.out.b⟩
      have hb0 : 0 ≤ b := by omega
      have hb1 : b < at'.length := by omega
      have d1 : decide (b < 0) = false := decide_eq_false hbn
      have d2 : decide ((at'.length : Int) ≤ b) = false := decide_eq_false hbl
      obtain ⟨x, hx⟩ : ∃ z, z = (f b.toNat).1 := ⟨_, rfl⟩
      obtain ⟨y, hy⟩ : ∃ z, z = (f b.toNat).2 := ⟨_, rfl⟩
      have hr := HF.out b.toNat
      rw [← hx, ← hy] at hr
      obtain ⟨⟨hx0, hx1⟩, hy0, hy1⟩ := hr
      have c1 := HP.out.rl b hb0 hb1 hx
      have c2 := HP.out.rc b hb0 hb1 hy
      have r1 := HP.out.l.free b.toNat
      have HXY := Aside0.mk (And.intro hx hy)
      clear hx hy
      go_upto_region 10 with fail
      go_cut [12] from 46 to 58 (fun v w1 => v = .int .i64 n ∧ Aside0 (PL w.heap.size gl gc at'.length (put f b.toNat m) f w w1))
      case first =>
        go_region
        all_goals go_wp2_with fail
        all_goals go_meet
        all_goals (case rel => exact ⟨rfl, ⟨HP.out.sl HN.out b HXY.out.1⟩⟩)
      case rest =>
      obtain ⟨rfl, HP2⟩ := hcut
      obtain ⟨w2, hw2⟩ : ∃ z, z = wc := ⟨_, rfl⟩
      subst hw2
      clear g1 g2 c1 c2 r1
      have g2 := HC2.out w2 HP2.out.b
      rw [← HBM.out.1] at g2
      have c2 := HP2.out.rc b hb0 hb1 HXY.out.2
      have r2 := HP2.out.c.free b.toNat
      go_upto_region 11 with fail
      go_cut [12] from 59 to 67 (fun v w1 => v = .int .i64 n ∧ Aside0 (PL w.heap.size gl gc at'.length (put f b.toNat m) (put f b.toNat m) w w1))
      case first =>
        go_wp2_with fail
        go_meet
        case rel => exact ⟨rfl, ⟨HP2.out.sc HN.out b m HXY.out.2⟩⟩
      case rest =>
      obtain ⟨rfl, HP3⟩ := hcut
      obtain ⟨w3, hw3⟩ : ∃ z, z = wc := ⟨_, rfl⟩
      subst hw3
      clear g2 c2 r2
      have g2 := HC2.out w3 HP3.out.b
      rw [← HBM.out.1] at g2
      obtain ⟨n2, hn2⟩ : ∃ z, z = max n (b + 1) := ⟨_, rfl⟩
      have hn20 : 0 ≤ n2 := by omega
      have hn21 : n2 ≤ at'.length := by omega
      have HN2 := Aside0.mk hn2; clear hn2
      go_upto_region 12 with fail
      go_cut [12] from 68 to 74 (fun v w1 => v = .int .i64 n2 ∧ w3 = w1)
      case first =>
        by_cases hmx : n < b + 1
        · go_wp2_with fail
          go_meet
          case rel => exact ⟨by rw [HN2.out, show max n (b + 1) = b + 1 by omega], rfl⟩
        · go_wp2_with fail
          go_meet
          case rel => exact ⟨by rw [HN2.out, show max n (b + 1) = n by omega], rfl⟩
      case rest =>
      obtain ⟨rfl, rfl⟩ := hcut
      have hps := put_self f b.toNat m
      have c1 := HP3.out.rl b hb0 hb1 (x := x + m) (by rw [hps, HXY.out.1])
      have c2 := HP3.out.rc b hb0 hb1 (x := y + 1) (by rw [hps, HXY.out.2])
      clear hps
      by_cases ho1 : most < x + m
      · have d3 : decide (most < x + m) = true := decide_eq_true ho1
        have HZ : Aside0 (packedF ms at' most each = (0, false)) := ⟨packedF_none HL.out (by rw [HST.out, ← HBM.out.1, if_neg (by omega), ← HBM.out.2, ← HXY.out.1, if_pos (.inl ho1)])⟩
        go_wp2_with fail
        go_ret2
        rw [HZ.out]
        exact ⟨rfl, HP3.out.b⟩
      have d3 : decide (most < x + m) = false := decide_eq_false ho1
      by_cases ho2 : each < y + 1
      · have d4 : decide (each < y + 1) = true := decide_eq_true ho2
        have HZ : Aside0 (packedF ms at' most each = (0, false)) := ⟨packedF_none HL.out (by rw [HST.out, ← HBM.out.1, if_neg (by omega), ← HBM.out.2, ← HXY.out.1, ← HXY.out.2, if_pos (.inr ho2)])⟩
        go_wp2_with fail
        go_ret2
        rw [HZ.out]
        exact ⟨rfl, HP3.out.b⟩
      have d4 : decide (each < y + 1) = false := decide_eq_false ho2
      go_wp2_with fail
      go_roundw
      case rel =>
        refine ⟨n2, i + 1, put f b.toNat m, rfl, by go_num, by omega, by omega, hn20, hn21, HP3, ⟨?_⟩, ⟨HF.out.put b.toNat (by rw [← HXY.out.1]; omega) (by rw [← HXY.out.1]; omega) (by rw [← HXY.out.2]; omega)⟩⟩
        rw [HST.out, ← HBM.out.1, if_neg (by omega), ← HBM.out.2, ← HXY.out.1, ← HXY.out.2, if_neg (by omega), HN2.out]
      case measure => show at'.length - (i + 1).toNat < at'.length - i.toNat; omega
    · have hi : i.toNat = at'.length := by omega
      have hs := HS.out
      rw [hi, List.drop_length, List.drop_eq_nil_of_le (by have := HL.out; omega)] at hs
      have HZ := Aside0.mk (packedF_some HL.out (hs.symm.trans rfl))
      clear hs hi
      go_wp2_with fail
      go_loop [14] (fun v => ∃ j : Int, v = .int .i64 j ∧ 0 ≤ j ∧ j ≤ n ∧ Aside0 (∀ k : Nat, (k : Int) < j → (f k).2 ≠ 0)) (fun v => at'.length - (intOf v).toNat)
      case atStart => exact ⟨0, rfl, by omega, by omega, ⟨fun k hk => by omega⟩⟩
      case round =>
        obtain ⟨j, rfl, hj0, hj1, HJ⟩ := hrel
        by_cases hjn : j < n
        · obtain ⟨y, hy⟩ : ∃ z, z = (f j.toNat).2 := ⟨_, rfl⟩
          have c2 := HP.out.rc j hj0 (by omega) hy
          have HY := Aside0.mk hy; clear hy
          by_cases hy0 : y = 0
          · have HZ2 : Aside0 (packedF ms at' most each = (0, false)) := ⟨by
              rw [HZ.out, if_neg]
              unfold fullB
              rw [List.all_eq_true]
              intro h
              have := h j.toNat (List.mem_range.2 (by omega))
              rw [← HY.out, hy0] at this
              simp at this⟩
            subst hy0
            go_wp2_with fail
            go_ret2
            rw [HZ2.out]
            exact ⟨rfl, HP.out.b⟩
          · have d5 : (y == 0) = false := by simpa using hy0
            go_wp2_with fail
            go_round
            case rel =>
              refine ⟨j + 1, by go_num, by omega, by omega, ⟨fun k hk => ?_⟩⟩
              rcases (show (k : Int) < j ∨ k = j.toNat by omega) with h | h
              · exact HJ.out k h
              · rw [h, ← HY.out]; exact hy0
            case measure => show at'.length - (j + 1).toNat < at'.length - j.toNat; omega
        · have HZ2 : Aside0 (packedF ms at' most each = (n, true)) := ⟨by
            rw [HZ.out, if_pos]
            unfold fullB
            rw [List.all_eq_true]
            intro k hk
            have := HJ.out k (by have := List.mem_range.1 hk; omega)
            simp [this]⟩
          go_wp2_with fail
          go_ret2
          rw [HZ2.out]
          exact ⟨rfl, HP.out.b⟩

/-! ### What PressPacked answers. -/
theorem thingsE_one {ms : List Int} {most each : Int} (h : thingsE ms most each = 0) : thingsE ms most 1 = 0 := by
  obtain ⟨_, _, he, _⟩ := MOK.of_E h
  unfold thingsE at *
  by_cases h1 : 12 < ms.length
  · rw [if_pos h1] at h; omega
  · rw [if_neg h1] at h ⊢
    by_cases h2 : most < 1 ∨ 1073741824 < most ∨ each < 1 ∨ 12 < each
    · rw [if_pos h2] at h; omega
    · rw [if_neg h2] at h
      rw [if_neg (by omega)]
      exact h
theorem kr_sum {most : Int} (_hm : 1 ≤ most) : ∀ (ms : List Int), (∀ m ∈ ms, 1 ≤ m ∧ m ≤ most) → ms.sum = (ms.map (kc most)).sum * most + (ms.map (rc most 0)).sum := by
  intro ms
  induction ms with
  | nil => intro _; simp
  | cons m ms ih =>
    intro h
    have a := ih (fun x hx => h x (List.mem_cons_of_mem _ hx))
    have b := h m List.mem_cons_self
    rw [List.map_cons, List.map_cons, List.sum_cons, List.sum_cons, List.sum_cons, a, Int.add_mul]
    unfold kc rc
    by_cases h1 : most < 2 * m
    · rw [if_pos h1, if_neg (by omega), if_pos h1]; omega
    · rw [if_neg h1, if_neg (by omega), if_neg h1]
      rw [if_pos (by omega)]; omega
theorem bf_sum {most K R : Int} (hm : 1 ≤ most) : K * most + R ≤ bf most K R * most := by
  unfold bf
  split
  · rw [Int.add_mul]
    have h1 := Int.emod_add_mul_ediv (R + most - 1) most
    have h2 := Int.emod_lt_of_pos (R + most - 1) (show 0 < most by omega)
    rw [Int.mul_comm] at h1
    omega
  · omega
/-- The bound times the capacity is at least the whole mass. -/
theorem boundF_sum {ms : List Int} {most : Int} (hm : 1 ≤ most) (hle : ∀ m ∈ ms, 1 ≤ m ∧ m ≤ most) : ms.sum ≤ boundF ms most * most := by
  have h1 : bval ms most 0 ≤ boundF ms most := cand_le List.mem_cons_self (by omega)
  rw [bval_kr (by omega)] at h1
  have h2 := kr_sum hm ms hle
  have h3 := bf_sum (K := (ms.map (kc most)).sum) (R := (ms.map (rc most 0)).sum) hm
  have h4 := Int.mul_le_mul_of_nonneg_right h1 (show 0 ≤ most by omega)
  omega
/-- At the first place where they differ the lesser list is less. -/
theorem lex_at : ∀ (l o : List Int) (i : Nat), LexLe l o → (∀ k, k < i → l.getD k 0 = o.getD k 0) → i < l.length → l.getD i 0 ≠ o.getD i 0 → l.getD i 0 < o.getD i 0 := by
  intro l
  induction l with
  | nil => intro o i _ _ h; simp at h
  | cons x l ih =>
    intro o i h he hi hn
    cases o with
    | nil => exact h.elim
    | cons y o =>
      cases i with
      | zero =>
        rcases h with h | ⟨h, _⟩
        · exact h
        · exact absurd h hn
      | succ i =>
        have h0 : x = y := he 0 (by omega)
        rcases h with h | ⟨_, h⟩
        · omega
        · exact ih o i h (fun k hk => he (k + 1) (by omega)) (by simpa using hi) hn
theorem take_sum (ms : List Int) (i : Int) (h0 : 0 ≤ i) (h : i < ms.length) : (ms.take (i + 1).toNat).sum = (ms.take i.toNat).sum + rd ms i := by
  rw [show (i + 1).toNat = i.toNat + 1 by omega, List.take_succ_eq_append_getElem (by omega), List.sum_append]
  simp [rd, List.getD_eq_getElem?_getD, List.getElem?_eq_getElem (show i.toNat < ms.length by omega)]
theorem pair_eq {p : Int × Bool} {a : Int} {b : Bool} (h1 : p.1 = a) (h2 : p.2 = b) : p = (a, b) := by rw [← h1, ← h2]

theorem ppacked_bad (w : World) (A B : Option Addr) (c d n3 : Nat) (ms : List Int) (most each : Int) (h : (Kd.int .i64).C w A ms.length ms) (he : thingsE ms most each ≠ 0) :
    Calls Try.prog 4 #[.slice A ms.length c, .int .i64 most, .int .i64 each, .slice B n3 d] w fun e w' => e = .returned (.bool true) ∧ Below w.heap.size w w' := by
  have hp0 : Calls Try.prog 17 #[.slice A ms.length c, .int .i64 most, .int .i64 each] w fun e w' => ∃ A2, e = .returned (.tuple #[.slice A2 0 0, .int .i64 0, .int .i64 (thingsE ms most each)]) ∧ Below w.heap.size w w' := by
    refine (pack_best w A c ms most each h).mono ?_
    rintro e w' ⟨A2, n, m, l, rfl, h2, _, h4⟩
    obtain ⟨rfl, rfl, rfl⟩ := h4.2 he
    exact ⟨A2, rfl, h2⟩
  obtain ⟨f, hf⟩ : ∃ z, z = thingsE ms most each := ⟨_, rfl⟩
  rw [← hf] at hp0 he
  have g0 : (f == 0) = false := by simpa using he
  have hp := Aside0.mk hp0
  have ha := Aside0.mk alive_any
  clear hp0 he hf h
  go_enter Try.func4, Try.ntmps4
  go_upto_region 2 with ((with_reducible refine hp.out.mono ?_); rintro e1 w1 ⟨A2, rfl, hb1⟩; have H1 := Aside0.mk hb1; clear hb1)
  go_wp2_with ((with_reducible refine (ha.out _).mono ?_); rintro e8 w8 ⟨rfl, hb8⟩; have H8 := Aside0.mk (below_step H1.out hb8); clear hb8)
  go_ret
  exact ⟨rfl, H8.out⟩

set_option maxRecDepth 100000 in
set_option maxHeartbeats 4000000 in
theorem ppacked_ok (w : World) (A B : Option Addr) (c d : Nat) (ms ot : List Int) (most each : Int) (h : (Kd.int .i64).C w A ms.length ms) (k : (Kd.int .i64).C w B ot.length ot) (he : thingsE ms most each = 0) :
    Calls Try.prog 4 #[.slice A ms.length c, .int .i64 most, .int .i64 each, .slice B ot.length d] w fun e w' => e = .returned (.bool true) ∧ Below w.heap.size w w' := by
  obtain ⟨hms, ⟨hm0, hm1⟩, hea, hle⟩ := MOK.of_E he
  have hp0 : Calls Try.prog 17 #[.slice A ms.length c, .int .i64 most, .int .i64 each] w fun e w' => ∃ (A2 : Option Addr) (n : Nat) (l : List Int), e = .returned (.tuple #[.slice A2 ms.length ms.length, .int .i64 n, .int .i64 0]) ∧ Below w.heap.size w w' ∧ (Kd.int .i64).C w' A2 ms.length l ∧ Best ms most each n ms.length l ∧ n ≤ 12 := by
    refine (pack_best w A c ms most each h).mono ?_
    rintro e w' ⟨A2, n2, m, l, rfl, h2, h3, h4⟩
    obtain ⟨n, rfl, hn, rfl, _⟩ := h4.1 he
    rw [he]
    exact ⟨A2, n, l, rfl, h2, h3, h4, by have := hms.1; omega⟩
  have hp := Aside0.mk hp0; clear hp0
  have HC := Aside0.mk (And.intro h k); clear h k
  have HE := Aside0.mk (And.intro he (And.intro hms (And.intro hea hle)))
  have HB := Aside0.mk (boundF_sum (ms := ms) hm0 (fun m hm => ⟨hms.pos m hm, by obtain ⟨i, hi, rfl⟩ := mem_getD hm; exact hle i hi⟩))
  have hl12 := hms.1
  clear he hms hea hle
  go_enter Try.func4, Try.ntmps4
  go_upto_region 2 with ((with_reducible refine hp.out.mono ?_); rintro e1 w1 ⟨A2, n, l, rfl, hb1, hC1, hB1, hn12⟩; have H1 := Aside0.mk (And.intro hb1 (And.intro hC1 hB1)); clear hb1 hC1 hB1)
  clear hp
  have hll : l.length = ms.length := H1.out.2.1.1
  have hq0 := packed_any w1 A A2 c ms.length ms l most each (Kd.C_below HC.out.1 H1.out.1) (by rw [hll]; exact H1.out.2.1) HE.out.2.1 ⟨hm0, hm1⟩ HE.out.2.2.1
  rw [packedF_best H1.out.2.2 HE.out.1, hll] at hq0
  have hq := Aside0.mk hq0
  have HLL := Aside0.mk hll
  clear hq0 hll
  go_upto_region 5 with ((with_reducible refine hq.out.mono ?_); rintro e2 w2 ⟨rfl, hb2⟩; have H2 := Aside0.mk (below_step H1.out.1 hb2); have H2C := Aside0.mk (Kd.C_below H1.out.2.1 hb2); clear hb2)
  clear hq
  have hq0 := pBound_any w2 A c ms most (Kd.C_below HC.out.1 H2.out)
  rw [if_pos (thingsE_one HE.out.1), thingsE_one HE.out.1] at hq0
  obtain ⟨bd, hbd⟩ : ∃ z, z = boundF ms most := ⟨_, rfl⟩
  have hbn : bd ≤ n := by
    obtain ⟨n', e, _, _, h, _⟩ := H1.out.2.2.1 HE.out.1
    rw [hbd]
    omega
  have hb0 : 0 ≤ bd := by rw [hbd]; exact boundF_nonneg
  have hbs := HB.out
  rw [← hbd] at hq0 hbs
  have hbm := mul_bd hb0 (show bd ≤ 12 by omega) (show 0 ≤ most by omega) hm1
  have hq := Aside0.mk hq0
  clear hq0 hbd HB
  have HBS := Aside0.mk hbs; clear hbs
  go_upto_region 6 with ((with_reducible refine hq.out.mono ?_); rintro e3 w3 ⟨rfl, hb3⟩; have H3 := Aside0.mk (below_step H2.out hb3); have H3C := Aside0.mk (Kd.C_below H2C.out hb3); clear hb3)
  clear hq
  go_wp2_with fail
  go_loop [16, 17] (fun v v2 => ∃ s i : Int, v = .int .i64 s ∧ v2 = .int .i64 i ∧ 0 ≤ i ∧ i ≤ ms.length ∧ 0 ≤ s ∧ s ≤ i * 1073741824 ∧ Aside0 (s = (ms.take i.toNat).sum)) (fun _ v => ms.length - (intOf v).toNat)
  case atStart => exact ⟨0, 0, rfl, rfl, by omega, by omega, by omega, by omega, ⟨rfl⟩⟩
  case round =>
    obtain ⟨s, i, rfl, rfl, h0, h1, hs0, hs1, HS⟩ := hrel
    by_cases hlt : i < ms.length
    · obtain ⟨ad, e1, g1⟩ := Kd.at_int (Kd.C_below HC.out.1 H3.out) i h0 hlt
      subst e1
      have hm := HE.out.2.1.at_ i h0 hlt
      obtain ⟨m, hmm⟩ : ∃ z, z = rd ms i := ⟨_, rfl⟩
      rw [← hmm] at hm g1
      have HMM := Aside0.mk hmm; clear hmm
      go_wp2_with fail
      go_round
      case rel => exact ⟨s + m, i + 1, by go_num, by go_num, by omega, by omega, by omega, by omega, ⟨by rw [take_sum ms i h0 hlt, ← HMM.out, HS.out]⟩⟩
      case measure => simp [intOf]; omega
    · have hs : s ≤ bd * most := by
        have h := HS.out
        rw [show i.toNat = ms.length by omega, List.take_length] at h
        rw [h]; exact HBS.out
      clear HS HBS
      obtain ⟨pr, hpr⟩ : ∃ z, z = bd * most := ⟨_, rfl⟩
      have hd1 : decide ((n : Int) < bd) = false := decide_eq_false (by omega)
      have hd2 : decide (bd * most < s) = false := decide_eq_false (by omega)
      clear hpr pr
      have hq := Aside0.mk (packed_any w3 A B c d ms ot most each (Kd.C_below HC.out.1 H3.out) (Kd.C_below HC.out.2 H3.out) HE.out.2.1 ⟨hm0, hm1⟩ HE.out.2.2.1)
      obtain ⟨p1, hp1⟩ : ∃ z, z = (packedF ms ot most each).1 := ⟨_, rfl⟩
      obtain ⟨p2, hp2⟩ : ∃ z, z = (packedF ms ot most each).2 := ⟨_, rfl⟩
      rw [← hp1, ← hp2] at hq
      have HPP := Aside0.mk (pair_eq hp1.symm hp2.symm)
      clear hp1 hp2
      go_upto_region 14 with ((with_reducible refine hq.out.mono ?_); rintro e4 w4 ⟨rfl, hb4⟩; have H4 := Aside0.mk (below_step H3.out hb4); have H4C := Aside0.mk (Kd.C_below H3C.out hb4); clear hb4)
      clear hq hd1 hd2
      have ha := Aside0.mk alive_any
      cases p2 with
      | false =>
        go_wp2_with ((with_reducible refine (ha.out _).mono ?_); rintro e8 w8 ⟨rfl, hb8⟩; have H8 := Aside0.mk (below_step H4.out hb8); clear hb8)
        go_ret
        exact ⟨rfl, H8.out⟩
      | true =>
        by_cases hgt : n < p1
        · have hd : decide ((n : Int) < p1) = true := decide_eq_true hgt
          go_wp2_with ((with_reducible refine (ha.out _).mono ?_); rintro e8 w8 ⟨rfl, hb8⟩; have H8 := Aside0.mk (below_step H4.out hb8); clear hb8)
          go_ret
          exact ⟨rfl, H8.out⟩
        have hd : decide ((n : Int) < p1) = false := decide_eq_false hgt
        obtain ⟨q0, q1, q2⟩ := packedF_free HPP.out
        obtain ⟨n', e, _, _, _, _, hlex, hmin⟩ := H1.out.2.2.1 HE.out.1
        have hnn : n' = n := by omega
        subst hnn
        have hpn : p1 = n' := by
          rcases (show p1.toNat < n' ∨ p1 = n' by omega) with h | h
          · have := hmin p1.toNat h ot
            rw [Int.toNat_of_nonneg q0] at this
            exact absurd q2 this
          · exact h
        subst hpn
        have HLEX := Aside0.mk (And.intro (hlex ot q2) (q1.trans HLL.out.symm))
        clear hlex hmin q2 e q0 hgt
        go_wp2_with fail
        go_loopw [20] (fun v wr => ∃ j : Int, v = .int .i64 j ∧ 0 ≤ j ∧ j ≤ ot.length ∧ Aside0 (∀ k : Nat, k < j.toNat → l.getD k 0 = ot.getD k 0) ∧ Aside0 (Below w4.heap.size w4 wr)) (fun v _ => ot.length - (intOf v).toNat)
        case atStart => exact ⟨0, rfl, by omega, by omega, ⟨fun k hk => by omega⟩, ⟨Below.refl _ _⟩⟩
        case round =>
          obtain ⟨j, rfl, hj0, hj1, HJ, HW⟩ := hrel
          by_cases hjl : j < ot.length
          · have hjm : j < ms.length := by have := HLEX.out.2; have := HLL.out; omega
            obtain ⟨ad, e1, g1⟩ := Kd.at_int (Kd.C_below H4C.out HW.out) j hj0 hjm
            obtain ⟨ad2, e2, g2⟩ := Kd.at_int (Kd.C_below HC.out.2 (below_step H4.out HW.out)) j hj0 hjl
            subst e1
            subst e2
            obtain ⟨x, hx⟩ : ∃ z, z = rd l j := ⟨_, rfl⟩
            obtain ⟨y, hy⟩ : ∃ z, z = rd ot j := ⟨_, rfl⟩
            rw [← hx] at g1
            rw [← hy] at g2
            have HXY := Aside0.mk (And.intro hx hy)
            clear hx hy
            by_cases hxy : x = y
            · have hd5 : (x == y) = true := by simpa using hxy
              go_upto_region 19 with fail
              go_quiet (fail)
              go_wp2_with fail
              go_roundw
              case rel =>
                refine ⟨j + 1, by go_num, by omega, by omega, ⟨fun k hk => ?_⟩, ⟨by first | exact below_drew HW.out | exact pw_below_drewN HW.out _⟩⟩
                rcases (show k < j.toNat ∨ k = j.toNat by omega) with h | h
                · exact HJ.out k h
                · have := HXY.out
                  rw [hxy] at this
                  rw [h]; exact this.1.symm.trans this.2
              case measure => simp [intOf]; omega
            · have hd5 : (x == y) = false := by simpa using hxy
              have hlt5 : x < y := by
                rw [HXY.out.1, HXY.out.2]
                exact lex_at l ot j.toNat HLEX.out.1 HJ.out (by have := HLL.out; omega) (fun e => hxy (by rw [HXY.out.1, HXY.out.2]; exact e))
              have hd6 : decide (x < y) = true := decide_eq_true hlt5
              go_upto_region 19 with fail
              go_cut [120] from 112 to 120 (fun v w1 => v = .bool true ∧ Aside0 (Below wr.heap.size wr w1))
              case first =>
                go_quiet (fail)
                go_wp2_with fail
                go_meet
                case rel => exact ⟨(by show Value.bool (!(x == y)) = _; rw [hd5]; rfl), ⟨by first | exact below_drew (Below.refl _ _) | exact pw_below_drewN (Below.refl _ _) _⟩⟩
              case rest =>
              obtain ⟨rfl, H6⟩ := hcut
              obtain ⟨w6, hw6⟩ : ∃ z, z = wc := ⟨_, rfl⟩
              subst hw6
              clear g1 g2
              have g1 := (Kd.at_int (Kd.C_below H4C.out (below_step HW.out H6.out)) j hj0 hjm)
              have g2 := (Kd.at_int (Kd.C_below HC.out.2 (below_step H4.out (below_step HW.out H6.out))) j hj0 hjl)
              obtain ⟨_, e1, g1⟩ := g1
              obtain ⟨_, e2, g2⟩ := g2
              cases e1
              cases e2
              rw [← HXY.out.1] at g1
              rw [← HXY.out.2] at g2
              go_upto_region 20 with fail
              go_still_tail 15, (by kernel_rfl)
              change wpList _ _ _ _ _ w6.drew
              go_wp2_with ((with_reducible refine (ha.out _).mono ?_); rintro e8 w8 ⟨rfl, hb8⟩; have H8 := Aside0.mk hb8; clear hb8)
              go_ret
              exact ⟨rfl, below_step H4.out (below_step HW.out (below_step H6.out (below_step (below_drew (Below.refl _ _)) H8.out)))⟩
          · go_wp2_with ((with_reducible refine (ha.out _).mono ?_); rintro e8 w8 ⟨rfl, hb8⟩; have H8 := Aside0.mk (below_step (below_step H4.out HW.out) hb8); clear hb8)
            go_ret
            exact ⟨rfl, H8.out⟩

theorem ppacked_any (w : World) (A B : Option Addr) (c d : Nat) (ms ot : List Int) (most each : Int) (h : (Kd.int .i64).C w A ms.length ms) (k : (Kd.int .i64).C w B ot.length ot) :
    Calls Try.prog 4 #[.slice A ms.length c, .int .i64 most, .int .i64 each, .slice B ot.length d] w fun e w' => e = .returned (.bool true) ∧ Below w.heap.size w w' := by
  by_cases he : thingsE ms most each = 0
  · exact ppacked_ok w A B c d ms ot most each h k he
  · exact ppacked_bad w A B c d _ ms most each h he

end Go.Proofs.Ytnoocdobldchoaa
