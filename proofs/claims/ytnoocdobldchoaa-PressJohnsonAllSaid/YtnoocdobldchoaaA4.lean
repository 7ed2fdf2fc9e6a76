/- The reference's assignment to so many boxes: what it lays in memory, and what it answers. -/
import Derived.Test.YtnoocdobldchoaaA3
import Derived.Test.YtnoocdobldchoaaA2
namespace Go.Proofs.Ytnoocdobldchoaa
open Go.RowKit Go.Proofs.YtnoocdobldchoaaW.PrintWords Go.Proofs.YtnoocdobldchoaaW.PrintMore Go.Proofs.YtnoocdobldchoaaW.PrintLast

/-! ### The reference's assignment to so many boxes: what it lays in memory, and what it answers. -/
def zeros (n : Nat) : List (Int × Int) := List.replicate n (0, 0)

section
variable (w : World) (c0 c1 c2 c3 : Array Value) (t0 t1 t2 t3 : TypeId)
theorem h4_0 : ((((w.alloc (.cells c0 t0)).alloc (.cells c1 t1)).alloc (.cells c2 t2)).alloc (.cells c3 t3)).drew.heap[w.heap.size]? = some (.cells c0 t0 (0, 0)) := by
  show ((((w.heap.push _).push _).push _).push _)[w.heap.size]? = _
  simp only [Array.getElem?_push, Array.size_push]
  repeat (first | rw [if_neg (by omega)] | rw [if_pos rfl] | rw [if_pos trivial])
theorem h4_1 : ((((w.alloc (.cells c0 t0)).alloc (.cells c1 t1)).alloc (.cells c2 t2)).alloc (.cells c3 t3)).drew.heap[w.heap.size + 1]? = some (.cells c1 t1 (0, 0)) := by
  show ((((w.heap.push _).push _).push _).push _)[w.heap.size + 1]? = _
  simp only [Array.getElem?_push, Array.size_push]
  repeat (first | rw [if_neg (by omega)] | rw [if_pos rfl] | rw [if_pos trivial])
theorem h4_2 : ((((w.alloc (.cells c0 t0)).alloc (.cells c1 t1)).alloc (.cells c2 t2)).alloc (.cells c3 t3)).drew.heap[w.heap.size + 1 + 1]? = some (.cells c2 t2 (0, 0)) := by
  show ((((w.heap.push _).push _).push _).push _)[w.heap.size + 1 + 1]? = _
  simp only [Array.getElem?_push, Array.size_push]
  repeat (first | rw [if_neg (by omega)] | rw [if_pos rfl] | rw [if_pos trivial])
theorem h4_3 : ((((w.alloc (.cells c0 t0)).alloc (.cells c1 t1)).alloc (.cells c2 t2)).alloc (.cells c3 t3)).drew.heap[w.heap.size + 1 + 1 + 1]? = some (.cells c3 t3 (0, 0)) := by
  show ((((w.heap.push _).push _).push _).push _)[w.heap.size + 1 + 1 + 1]? = _
  simp only [Array.getElem?_push, Array.size_push]
  repeat (first | rw [if_neg (by omega)] | rw [if_pos rfl] | rw [if_pos trivial])
theorem h4_b : Below w.heap.size w ((((w.alloc (.cells c0 t0)).alloc (.cells c1 t1)).alloc (.cells c2 t2)).alloc (.cells c3 t3)).drew :=
  below_drew (below_alloc (below_alloc (below_alloc (below_alloc (Below.refl _ _) _) _) _) _)
end
/-- What the reference lays in memory. -/
structure AM (w : World) (A : Option Addr) (c n nb : Nat) (most each : Int) (w1 : World) (bs ga gl gc : Nat) : Prop where
  s : w1.heap[bs]? = some (.cells #[.slice A n c, .int .i64 nb, .int .i64 each, .int .i64 most, .slice (some ⟨ga, 0, none⟩) n n, .slice (some ⟨gl, 0, none⟩) nb nb, .slice (some ⟨gc, 0, none⟩) nb nb, .int .i64 (nb * most)] 85 (0, 0))
  a : w1.heap[ga]? = some (.cells (madeCells #[.int .i64 0] n) 3 (0, 0))
  l : w1.heap[gl]? = some (.cells (madeCells #[.int .i64 0] nb) 3 (0, 0))
  k : w1.heap[gc]? = some (.cells (madeCells #[.int .i64 0] nb) 3 (0, 0))
  b : Below w.heap.size w w1
  ns : w.heap.size ≤ bs
  na : w.heap.size ≤ ga
  nl : w.heap.size ≤ gl
  nk : w.heap.size ≤ gc
  d1 : ga ≠ gl
  d2 : ga ≠ gc
  d3 : gl ≠ gc
def ARel (w : World) (A : Option Addr) (c n nb : Nat) (most each : Int) (a : Value) (w1 : World) : Prop := ∃ bs ga gl gc : Nat, a = .pointer (some ⟨bs, 0, none⟩) ∧ AM w A c n nb most each w1 bs ga gl gc

/-- How much room is left in all boxes together. -/
def freeF (ms : List Int) (nb : Nat) (most : Int) : Int := ms.foldl (· - ·) (nb * most)

theorem SM.of_AM {w w1 : World} {A : Option Addr} {c : Nat} {ms : List Int} {nb : Nat} {most each : Int} {bs ga gl gc : Nat} (h : (Kd.int .i64).C w A ms.length ms) (k : AM w A c ms.length nb most each w1 bs ga gl gc) :
    SM w.heap.size bs ga gl gc A c ms nb each most (nb * most) w1 (zeros nb) (List.replicate ms.length 0) where
  s := by
    have := k.s
    unfold Blk zeros
    simpa using this
  r := Kd.C_below h k.b
  ra := C_lt h
  a := by unfold Blk; rw [← made_ints]; exact k.a
  al := by simp
  l := by unfold Blk zeros; rw [List.map_replicate, ← made_ints]; exact k.l
  k := by unfold Blk zeros; rw [List.map_replicate, ← made_ints]; exact k.k
  bl := by simp [zeros]
  na := k.na
  nl := k.nl
  nk := k.nk
  d1 := k.d1
  d2 := k.d2
  d3 := k.d3
theorem SM.setFree {N bs ga gl gc : Nat} {A : Option Addr} {c : Nat} {ms : List Int} {bins each most free : Int} {w : World} {bx : List (Int × Int)} {av : List Int} (h : SM N bs ga gl gc A c ms bins each most free w bx av) (hn : bs ≠ ga ∧ bs ≠ gl ∧ bs ≠ gc) (hNb : N ≤ bs) (x : Int) :
    SM N bs ga gl gc A c ms bins each most x (w.setCell ⟨bs, 7, none⟩ (.int .i64 x)) bx av :=
  { h with
    s := h.s.set 7 (.int .i64 x)
    r := C_of_cells h.r (fun hp ad e j => World.cell?_setCell_other _ _ _ _ (fun he => by
      have h1 := congrArg Addr.block he
      rw [add_block] at h1
      have h2 := h.ra hp ad e
      simp only at h1
      omega))
    a := h.a.far (Ne.symm hn.1) _
    l := h.l.far (Ne.symm hn.2.1) _
    k := h.k.far (Ne.symm hn.2.2) _ }
theorem freeF_bd (ms : List Int) (nb : Nat) (most : Int) (h : MOK ms) (hb : 0 ≤ (nb : Int) * most ∧ (nb : Int) * most ≤ 12 * 12884901888) : ∀ i, i ≤ ms.length → -12884901888 ≤ (ms.take i).foldl (· - ·) (nb * most) ∧ (ms.take i).foldl (· - ·) (nb * most) ≤ 154618822656 := by
  have key : ∀ i, i ≤ ms.length → -((i : Int) * 1073741824) ≤ (ms.take i).foldl (· - ·) (nb * most) ∧ (ms.take i).foldl (· - ·) (nb * most) ≤ 154618822656 := by
    intro i
    induction i with
    | zero => intro _; simp; omega
    | succ i ih =>
      intro hi
      have h1 := ih (by omega)
      have h2 := h.2 i (by omega)
      rw [List.getD_eq_getElem?_getD, List.getElem?_eq_getElem (show i < ms.length by omega)] at h2
      simp only [Option.getD_some] at h2
      rw [List.take_succ_eq_append_getElem (by omega), List.foldl_append]
      simp only [List.foldl_cons, List.foldl_nil]
      omega
  intro i hi
  have h1 := key i hi
  have h2 := h.1
  omega

/-- The reference's answer for so many boxes. -/
def assignF (ms : List Int) (nb : Nat) (most each : Int) : Option (List Int) :=
  if ms ≠ [] ∧ freeF ms nb most < 0 then none else dfs most each nb ms 0 (zeros nb)
def ACall (N bs ga gl gc : Nat) (A : Option Addr) (c : Nat) (ms : List Int) (nb : Nat) (most each : Int) (w : World) (r : Bool) (w' : World) : Prop :=
  Kp (SS ga gl gc) w w' ∧ ∃ bx1 av, SM N bs ga gl gc A c ms nb each most (freeF ms nb most) w' bx1 av ∧ bx1.length = nb ∧ match assignF ms nb most each with | some l => r = true ∧ av = l | none => r = false
theorem zeros_get (n k : Nat) : (zeros n).getD k (0, 0) = (0, 0) := by
  unfold zeros
  rw [List.getD_eq_getElem?_getD, List.getElem?_replicate]
  split <;> rfl
theorem acall_any {N bs ga gl gc : Nat} {A : Option Addr} {c : Nat} {ms : List Int} {nb : Nat} {most each : Int} {w : World} {av : List Int} (hms : MOK ms) (hm0 : 0 ≤ most) (hm1 : most ≤ 12884901888) (he : 0 ≤ each ∧ each ≤ 12)
    (h : SM N bs ga gl gc A c ms nb each most (freeF ms nb most) w (zeros nb) av) (hN : N ≤ w.heap.size) :
    Calls Try.prog 68 #[.pointer (some ⟨bs, 0, none⟩), .int .i64 0, .int .i64 0] w fun e w' => ∃ r, e = .returned (.bool r) ∧ ACall N bs ga gl gc A c ms nb most each w r w' := by
  have hz : (zeros nb).length = nb := by simp [zeros]
  by_cases h0 : ms = []
  · subst h0
    refine (h.start 0).mono ?_
    rintro e w' ⟨rfl, rfl⟩
    refine ⟨true, rfl, Kp.refl _ _, zeros nb, av, h, hz, ?_⟩
    unfold assignF
    rw [if_neg (by simp)]
    exact ⟨rfl, List.eq_nil_of_length_eq_zero h.al⟩
  · have hl : 0 < ms.length := List.length_pos_iff.2 h0
    by_cases hf : freeF ms nb most < 0
    · refine (h.none_ 0 0 (by omega) hf).mono ?_
      rintro e w' ⟨rfl, rfl⟩
      refine ⟨false, rfl, Kp.refl _ _, zeros nb, av, h, hz, ?_⟩
      unfold assignF
      rw [if_pos ⟨h0, hf⟩]
    · have hrd : ∀ i : Int, 0 ≤ rd ms i ∧ rd ms i ≤ 1073741824 := by
        intro i
        by_cases hi : i.toNat < ms.length
        · have := hms.2 i.toNat hi
          unfold rd; omega
        · unfold rd; rw [List.getD_eq_getElem?_getD, List.getElem?_eq_none (by omega)]; simp
      refine (rfits_any hms.1 ⟨by omega, hm1⟩ he hrd (by omega) _ 0 0 w (zeros nb) av rfl (by omega) (by omega) h hN (fun k => by rw [zeros_get]; simp; omega) (by omega) (by omega)).mono ?_
      rintro e w' ⟨r, rfl, hk, hr⟩
      refine ⟨r, rfl, hk, ?_⟩
      rw [show ms.drop (0 : Int).toNat = ms from rfl] at hr
      have ha : assignF ms nb most each = dfs most each nb ms 0 (zeros nb) := by unfold assignF; rw [if_neg (by omega)]
      rw [ha]
      cases hd : dfs most each nb ms 0 (zeros nb) with
      | some l =>
        simp only [hd] at hr
        obtain ⟨hr1, bx1, hs⟩ := hr
        exact ⟨bx1, l, hs, by have := hs.bl; omega, hr1, rfl⟩
      | none =>
        simp only [hd] at hr
        obtain ⟨hr1, av1, hs, _⟩ := hr
        exact ⟨_, av1, hs, hz, hr1⟩
theorem Blk.ints_C {w : World} {g : Nat} {xs : List Int} (h : Blk w g (ints xs) 3) (hl : xs.length ≤ 9223372036854775807) : (Kd.int .i64).C w (some ⟨g, 0, none⟩) xs.length xs := by
  refine ⟨rfl, hl, fun _ => ⟨_, rfl, fun j p hp => ⟨[.int .i64 p], rfl, rfl, fun i u hi => ?_⟩⟩⟩
  have hj : j < xs.length := (List.getElem?_eq_some_iff.1 hp).1
  cases i with
  | zero =>
    simp only [List.getElem?_cons_zero, Option.some.injEq] at hi
    subst hi
    rw [add_plain]
    have := h.at_ (ints_get xs hj)
    rw [List.getD_eq_getElem?_getD, hp] at this
    show w.cell? ⟨g, j * 1 + 0, none⟩ = _
    rw [Nat.mul_one, Nat.add_zero]
    exact this
  | succ i => simp at hi

def APost (ms : List Int) (nb : Nat) (most each : Int) (w : World) (e : Ending) (w' : World) : Prop :=
  Below w.heap.size w w' ∧ ∃ g ok, e = .returned (.tuple #[.slice (some ⟨g, 0, none⟩) ms.length ms.length, .bool ok]) ∧
    match assignF ms nb most each with | some l => ok = true ∧ l.length = ms.length ∧ (Kd.int .i64).C w' (some ⟨g, 0, none⟩) ms.length l | none => ok = false

set_option maxHeartbeats 8000000 in
set_option maxRecDepth 100000 in
theorem assign_any (w : World) (A : Option Addr) (c : Nat) (ms : List Int) (nb : Nat) (most each : Int) (h : (Kd.int .i64).C w A ms.length ms) (hms : MOK ms) (hb : nb ≤ 12) (hm0 : 0 ≤ most) (hm1 : most ≤ 12884901888) (he : 0 ≤ each ∧ each ≤ 12) :
    Calls Try.prog 44 #[.slice A ms.length c, .int .i64 nb, .int .i64 most, .int .i64 each] w (APost ms nb most each w) := by
  have hl := hms.1
  have mk1 := print_make (P := Try.prog) 22 3 .i64 8 Try.underlying22 info3 (by decide) ms.length (by omega)
  have mk2 := print_make (P := Try.prog) 22 3 .i64 8 Try.underlying22 info3 (by decide) nb (by omega)
  have hbm := mul_bd (show (0 : Int) ≤ nb by omega) (show (nb : Int) ≤ 12 by omega) (show 0 ≤ most by omega) hm1
  have HR := Aside0.mk h; clear h
  go_enter Try.func44, Try.ntmps44
  go_upto_region 1 with fail
  go_cut [10] from 13 to 27 (fun a w1 => ARel w A c ms.length nb most each a w1)
  case first =>
    go_region
    all_goals go_wp2_with fail
    all_goals go_meet
    all_goals (case rel => exact ⟨_, _, _, _, rfl, { s := by first | exact h4_3 .. | exact h4_2 .. | exact h4_1 .. | exact h4_0 .., a := by first | exact h4_3 .. | exact h4_2 .. | exact h4_1 .. | exact h4_0 .., l := by first | exact h4_3 .. | exact h4_2 .. | exact h4_1 .. | exact h4_0 .., k := by first | exact h4_3 .. | exact h4_2 .. | exact h4_1 .. | exact h4_0 .., b := h4_b .., ns := by omega, na := by omega, nl := by omega, nk := by omega, d1 := by omega, d2 := by omega, d3 := by omega }⟩)
  case rest =>
  obtain ⟨bs, ga, gl, gc, rfl, hA⟩ := hcut
  clear mk1 mk2
  have hN1 : w.heap.size ≤ w.heap.size := Nat.le_refl _
  have hs0 := SM.of_AM HR.out hA
  have hsb : bs ≠ ga ∧ bs ≠ gl ∧ bs ≠ gc := ⟨hs0.s.ne_of_type hs0.a (by decide), hs0.s.ne_of_type hs0.l (by decide), hs0.s.ne_of_type hs0.k (by decide)⟩
  have HSB := Aside0.mk hsb; clear hsb
  have H0 := Aside0.mk hs0; clear hs0
  have HNS := Aside0.mk (And.intro hA.ns (And.intro hA.na (And.intro hA.nl hA.nk)))
  have HB0 := Aside0.mk hA.b
  clear hA
  have HMS := Aside0.mk hms; clear hms
  have HFB := Aside0.mk (freeF_bd ms nb most HMS.out hbm); clear hbm
  go_wp2_with fail
  go_loopw [11] (fun v wr => ∃ i : Int, v = .int .i64 i ∧ 0 ≤ i ∧ i ≤ ms.length ∧ Aside0 (∃ fr, fr = (ms.take i.toNat).foldl (· - ·) (nb * most) ∧ SM w.heap.size bs ga gl gc A c ms nb each most fr wr (zeros nb) (List.replicate ms.length 0)) ∧ Aside0 (Below w.heap.size w wr)) (fun v _ => ms.length - (intOf v).toNat)
  case atStart => exact ⟨0, rfl, by omega, by omega, ⟨_, rfl, H0.out⟩, HB0⟩
  case round =>
    obtain ⟨i, rfl, h0, h1, ⟨fr, hfr, hs⟩, hbw⟩ := hrel
    have hfb := HFB.out i.toNat (by omega)
    rw [← hfr] at hfb
    have HFR := Aside0.mk hfr; clear hfr
    have HS := Aside0.mk hs; clear hs
    by_cases hlt : i < ms.length
    · obtain ⟨ad, e1, g3⟩ := Kd.at_int HS.out.r i h0 hlt
      subst e1
      have hm := HMS.out.at_ i h0 hlt
      obtain ⟨m, hmm⟩ : ∃ z, z = rd ms i := ⟨_, rfl⟩
      rw [← hmm] at g3 hm
      have HM := Aside0.mk hmm; clear hmm
      have f7 := HS.out.s.at_ (i := 7) rfl
      have r7 := HS.out.s.free 7
      go_upto_region 5 with fail
      go_region
      go_wp2_with fail
      go_roundw
      case rel =>
        refine ⟨i + 1, by go_num, by omega, by omega, ⟨fr - m, ?_, (HS.out.setFree HSB.out HNS.out.1 _).drewN 1⟩, ⟨(hbw.out.setCell HNS.out.1 _).drew⟩⟩
        rw [HFR.out, HM.out, show (i + 1).toNat = i.toNat + 1 by omega, List.take_succ_eq_append_getElem (by omega), List.foldl_append]
        simp [rd, List.getD_eq_getElem?_getD, List.getElem?_eq_getElem (show i.toNat < ms.length by omega)]
      case measure => simp [intOf]; omega
    · have hff : fr = freeF ms nb most := by
        rw [HFR.out, show i.toNat = ms.length by omega, List.take_length]; rfl
      have hs2 := HS.out
      rw [hff] at hs2
      clear hff HFR HS
      have HS := Aside0.mk hs2; clear hs2
      have hN : w.heap.size ≤ wr.heap.size := hbw.out.size
      have hc := Aside0.mk (acall_any HMS.out hm0 hm1 he HS.out hN)
      go_upto_region 6 with fail
      go_cut [12] from 28 to 45 (fun a w3 => ∃ r, a = .bool r ∧ Aside0 (ACall w.heap.size bs ga gl gc A c ms nb most each wr r w3))
      case first =>
        go_wp2_with ((with_reducible refine hc.out.mono ?_); rintro e5 w5 ⟨r5, rfl, hpost5⟩)
        go_meet
        case rel => exact ⟨r5, rfl, ⟨hpost5⟩⟩
      case rest =>
      obtain ⟨r5, rfl, ⟨hk5, bx1, av1, hs5, hb5, hr5⟩⟩ := hcut
      have hbl : Below w.heap.size w wc := ((Kp.of_below hbw.out : Kp (SS ga gl gc) w wr).step hk5).below_of (fun i hi => by have := HNS.out; rcases hi with rfl | rfl | rfl <;> omega)
      have f4 := hs5.s.at_ (i := 4) rfl
      have ha5 := hs5.a
      have hal := hs5.al
      have HBL := Aside0.mk hbl; clear hbl
      have HA5 := Aside0.mk (And.intro ha5 (And.intro hal hr5)); clear ha5 hal hr5 hs5 hk5 HS hbw hc
      go_wp2_with fail
      go_ret2
      refine ⟨HBL.out, ga, r5, rfl, ?_⟩
      obtain ⟨h1, h2, h3⟩ := HA5.out
      have hC := h1.ints_C (by omega)
      rw [h2] at hC
      cases ha : assignF ms nb most each with
      | some l =>
        simp only [ha] at h3
        obtain ⟨h4, rfl⟩ := h3
        exact ⟨h4, h2, hC⟩
      | none =>
        simp only [ha] at h3
        exact h3

/-! ### The copy of a list, and the program's bound with its checks. -/
set_option maxHeartbeats 1000000 in
theorem pBound_any (w : World) (A : Option Addr) (c : Nat) (ms : List Int) (most : Int) (h : (Kd.int .i64).C w A ms.length ms) :
    Calls Try.prog 20 #[.slice A ms.length c, .int .i64 most] w fun e w' => e = .returned (.tuple #[.int .i64 (if thingsE ms most 1 = 0 then boundF ms most else 0), .int .i64 (thingsE ms most 1)]) ∧ Below w.heap.size w w' := by
  have hbx := Aside0.mk (things_any w A c ms most 1 h)
  have HRM := Aside0.mk h; clear h
  obtain ⟨e0, he0⟩ : ∃ z, z = thingsE ms most 1 := ⟨_, rfl⟩
  rw [← he0] at hbx ⊢
  by_cases hz : e0 = 0
  · rw [if_pos hz]
    obtain ⟨hms, ⟨hm0, hm1⟩, _, hle⟩ := MOK.of_E (he0.symm.trans hz)
    clear he0 hle
    subst hz
    have HMS := Aside0.mk hms; clear hms
    obtain ⟨b0, hb0⟩ : ∃ z, z = boundF ms most := ⟨_, rfl⟩
    rw [← hb0]
    have HB0 := Aside0.mk hb0; clear hb0
    go_enter Try.func20, Try.ntmps20
    go_upto_region 2 with ((with_reducible refine hbx.out.mono ?_); rintro e5 w5 ⟨rfl, hb5⟩)
    have hc := Aside0.mk (bound_any w5 A c ms most (Kd.C_below HRM.out hb5) HMS.out hm0 hm1)
    rw [← HB0.out] at hc
    go_wp2_with ((with_reducible refine hc.out.mono ?_); rintro e6 w6 ⟨rfl, hb6⟩)
    go_ret2
    exact ⟨rfl, below_step hb5 hb6⟩
  · rw [if_neg hz]
    have hzb : (e0 != 0) = true := by simp [hz]
    clear he0
    go_enter Try.func20, Try.ntmps20
    go_wp2_with ((with_reducible refine hbx.out.mono ?_); rintro e5 w5 ⟨rfl, hb5⟩)
    go_ret2
    exact ⟨rfl, hb5⟩

set_option maxHeartbeats 1000000 in
/-- A copy of a list: in memory of its own. -/
theorem copied_any (w : World) (A : Option Addr) (c : Nat) (xs : List Int) (h : (Kd.int .i64).C w A xs.length xs) (hl : xs.length ≤ 100000) :
    Calls Try.prog 16 #[.slice A xs.length c] w fun e w' => ∃ g, e = .returned (.slice (some ⟨g, 0, none⟩) xs.length xs.length) ∧ Below w.heap.size w w' ∧ Blk w' g (ints xs) 3 := by
  have mk1 := print_make (P := Try.prog) 22 3 .i64 8 Try.underlying22 info3 (by decide) xs.length (by omega)
  have HR := Aside0.mk h; clear h
  go_enter Try.func16, Try.ntmps16
  go_upto_region 2 with fail
  clear mk1
  have b1 := below_alloc (Below.refl w.heap.size w) (.cells (madeCells #[.int .i64 0] xs.length) 3)
  have g1 : Blk (w.alloc (.cells (madeCells #[.int .i64 0] xs.length) 3)) w.heap.size (ints (List.replicate xs.length 0)) 3 := by
    rw [made_ints]; exact Blk.new _ _ _
  obtain ⟨w1, hw1⟩ : ∃ z, z = w.alloc (.cells (madeCells #[.int .i64 0] xs.length) 3) := ⟨_, rfl⟩
  rw [← hw1] at b1 g1 ⊢
  have B1 := Aside0.mk b1; clear b1
  have G1 := Aside0.mk g1; clear g1 hw1
  go_wp2_with fail
  go_loopw [4] (fun v wr => ∃ i : Int, v = .int .i64 i ∧ 0 ≤ i ∧ i ≤ xs.length ∧ Aside0 (Below w.heap.size w wr) ∧ Aside0 (Blk wr w.heap.size (ints (xs.take i.toNat ++ List.replicate (xs.length - i.toNat) 0)) 3)) (fun v _ => xs.length - (intOf v).toNat)
  case atStart => exact ⟨0, rfl, by omega, by omega, B1, ⟨by simpa using G1.out⟩⟩
  case round =>
    obtain ⟨i, rfl, h0, h1, hb, hg⟩ := hrel
    by_cases hlt : i < xs.length
    · have hC := Kd.C_below HR.out hb.out
      obtain ⟨ad, e1, g3⟩ := Kd.at_int hC i h0 hlt
      subst e1
      have hil : i.toNat < (xs.take i.toNat ++ List.replicate (xs.length - i.toNat) 0).length := by simp; omega
      have f1 := hg.out.at_ (ints_get _ hil)
      have f2 := hg.out.free i.toNat
      go_wp2_with fail
      go_roundw
      case rel =>
        refine ⟨i + 1, by go_num, by omega, by omega, ⟨hb.out.setCell (Nat.le_refl _) _⟩, ⟨?_⟩⟩
        have := hg.out.set i.toNat (.int .i64 (rd xs i))
        rw [ints_set] at this
        have e2 : (xs.take i.toNat ++ List.replicate (xs.length - i.toNat) 0).set i.toNat (rd xs i) = xs.take (i + 1).toNat ++ List.replicate (xs.length - (i + 1).toNat) 0 := by
          rw [List.set_append_right _ _ (by rw [List.length_take]; omega)]
          rw [show (i + 1).toNat = i.toNat + 1 by omega, List.take_succ_eq_append_getElem (by omega), show xs.length - i.toNat = (xs.length - (i.toNat + 1)) + 1 by omega, List.replicate_succ]
          rw [List.length_take, show i.toNat - min i.toNat xs.length = 0 by omega, List.set_cons_zero, List.append_assoc]
          simp [rd, List.getD_eq_getElem?_getD, List.getElem?_eq_getElem (show i.toNat < xs.length by omega)]
        rwa [e2] at this
      case measure => simp [intOf]; omega
    · go_wp2_with fail
      go_ret
      refine ⟨_, rfl, hb.out, ?_⟩
      have := hg.out
      rw [show i.toNat = xs.length by omega, List.take_length, Nat.sub_self] at this
      simpa using this

/-! ### What the reference's packing answers. -/
def RPackPost (ms : List Int) (most each : Int) (w : World) (e : Ending) (w' : World) : Prop :=
  Below w.heap.size w w' ∧
  if thingsE ms most each = 0 then ∃ (g n : Nat) (l : List Int), n ≤ ms.length ∧ (∀ k : Nat, k < n → assignF ms k most each = none) ∧ assignF ms n most each = some l ∧
    e = .returned (.tuple #[.slice (some ⟨g, 0, none⟩) ms.length ms.length, .int .i64 n, .int .i64 0]) ∧ l.length = ms.length ∧ (Kd.int .i64).C w' (some ⟨g, 0, none⟩) ms.length l
  else e = .returned (.tuple #[.slice none 0 0, .int .i64 0, .int .i64 (thingsE ms most each)])

set_option maxHeartbeats 4000000 in
theorem rpack_any (w : World) (A : Option Addr) (c : Nat) (ms : List Int) (most each : Int) (h : (Kd.int .i64).C w A ms.length ms)
    (hex : thingsE ms most each = 0 → ∃ n0 : Nat, n0 ≤ ms.length ∧ assignF ms n0 most each ≠ none) :
    Calls Try.prog 18 #[.slice A ms.length c, .int .i64 most, .int .i64 each] w (RPackPost ms most each w) := by
  have hbx := Aside0.mk (boxes_any w A c ms most each h)
  have HR := Aside0.mk h; clear h
  have HEX := Aside0.mk hex; clear hex
  obtain ⟨e0, he0⟩ : ∃ z, z = thingsE ms most each := ⟨_, rfl⟩
  rw [← he0] at hbx
  have HE := Aside0.mk he0; clear he0
  by_cases hz : e0 = 0
  · obtain ⟨hms, ⟨hm0, hm1⟩, hec, hle⟩ := MOK.of_E (HE.out.symm.trans hz)
    obtain ⟨n0, hn0, hn1⟩ := HEX.out (HE.out.symm.trans hz)
    subst hz
    have hml := hms.1
    have HMS := Aside0.mk hms; clear hms hle
    have HN1 := Aside0.mk hn1; clear hn1 HEX
    go_enter Try.func18, Try.ntmps18
    go_wp2_with ((with_reducible refine hbx.out.mono ?_); rintro e5 w5 ⟨rfl, rfl⟩)
    clear hbx
    go_loopw [10] (fun v wr => ∃ n : Nat, v = .int .i64 n ∧ n ≤ n0 ∧ Aside0 (Below w.heap.size w wr) ∧ Aside0 (∀ k : Nat, k < n → assignF ms k most each = none)) (fun v _ => n0 + 1 - (intOf v).toNat)
    case atStart => exact ⟨0, rfl, by omega, ⟨Below.refl _ _⟩, ⟨fun k h => by omega⟩⟩
    case round =>
      obtain ⟨n, rfl, hnn, hb, hno⟩ := hrel
      have hC := Kd.C_below HR.out hb.out
      have hcall := Aside0.mk (assign_any wr A c ms n most each hC HMS.out (by omega) (by omega) (by omega) ⟨by omega, by omega⟩)
      clear hC
      go_upto_region 7 with fail
      go_cut [11, 12] from 20 to 36 (fun a b w5 => ∃ g ok, a = .slice (some ⟨g, 0, none⟩) ms.length ms.length ∧ b = .bool ok ∧ Aside0 (Below wr.heap.size wr w5 ∧ match assignF ms n most each with | some l => ok = true ∧ l.length = ms.length ∧ (Kd.int .i64).C w5 (some ⟨g, 0, none⟩) ms.length l | none => ok = false))
      case first =>
        go_wp2_with ((with_reducible refine hcall.out.mono ?_); rintro e5 w5 ⟨hb5, g5, ok5, rfl, hp5⟩; have HP5 := Aside0.mk (And.intro hb5 hp5); clear hb5 hp5)
        go_meet
        case rel => exact ⟨g5, ok5, rfl, rfl, HP5⟩
      case rest =>
      obtain ⟨g5, ok5, rfl, rfl, ⟨hb5, hp5⟩⟩ := hcut
      have hb6 := hb.out.trans (hb5.mono hb.out.size)
      have HB6 := Aside0.mk hb6; clear hb6 hb5 hb hcall
      cases hd5 : assignF ms n most each with
      | some l5 =>
        simp only [hd5] at hp5
        obtain ⟨rfl, h5, h6⟩ := hp5
        have HD5 := Aside0.mk hd5; clear hd5
        have H56 := Aside0.mk (And.intro h5 h6); clear h5 h6
        go_wp2_with fail
        refine bodyPost_ret (v := .tuple #[.slice (some ⟨g5, 0, none⟩) ms.length ms.length, .int .i64 n, .int .i64 0]) (by simp [results, Try.results18, go_sem]) rfl ?_
        refine ⟨HB6.out, ?_⟩
        rw [if_pos HE.out.symm]
        exact ⟨g5, n, l5, by omega, hno.out, HD5.out, rfl, H56.out.1, H56.out.2⟩
      | none =>
        simp only [hd5] at hp5
        subst hp5
        have hlt : n < n0 := by
          rcases Nat.lt_or_ge n n0 with h1 | h1
          · exact h1
          · have : n = n0 := by omega
            subst this
            exact absurd hd5 HN1.out
        have HD5 := Aside0.mk hd5; clear hd5
        go_wp2_with fail
        go_roundw
        case rel =>
          refine ⟨n + 1, by go_num, by omega, HB6, ⟨fun k h2 => ?_⟩⟩
          by_cases hkn : k < n
          · exact hno.out k hkn
          · have : k = n := by omega
            subst this
            exact HD5.out
        case measure => simp [intOf]; omega
  · have hzb : (e0 != 0) = true := by simp [hz]
    go_enter Try.func18, Try.ntmps18
    go_wp2_with ((with_reducible refine hbx.out.mono ?_); rintro e5 w5 ⟨rfl, rfl⟩)
    refine bodyPost_ret (v := .tuple #[.slice none 0 0, .int .i64 0, .int .i64 e0]) (by simp [results, Try.results18, go_sem]) rfl ?_
    exact ⟨Below.refl _ _, by rw [← HE.out, if_neg hz]⟩

/-! ### A row of whole numbers that came in, read as a list. -/
/-- The elements of a row that came in: its numbers as far as its length goes. -/
theorem row_C {w : World} {a : Option Addr} {len cap : Nat} {zs : List Int}
    (h : (a = none ∧ len = 0 ∧ cap = 0 ∧ zs = []) ∨ ∃ x, a = some x ∧ len ≤ cap ∧ cap ≤ maxLen ∧ zs.length = cap ∧ (∀ i, i < zs.length → w.cell? (x.add i) = some (.int .i64 (zs.getD i 0))) ∧ ∀ n ∈ zs, (Lit.int .i64 n).wf = true) :
    (zs.take len).length = len ∧ (Kd.int .i64).C w a len (zs.take len) := by
  rcases h with ⟨rfl, rfl, rfl, rfl⟩ | ⟨x, rfl, h1, h2, h3, h4, _⟩
  · exact ⟨rfl, rfl, by decide, fun h => absurd h (by decide)⟩
  · have hl : (zs.take len).length = len := by rw [List.length_take]; omega
    refine ⟨hl, hl, by unfold maxLen at h2; omega, fun _ => ⟨x, rfl, fun j p hp => ⟨[.int .i64 p], rfl, rfl, fun i u hi => ?_⟩⟩⟩
    have hj : j < len := by have := (List.getElem?_eq_some_iff.1 hp).1; omega
    have hz : zs.getD j 0 = p := by
      rw [List.getElem?_take, if_pos hj] at hp
      rw [List.getD_eq_getElem?_getD, hp]; rfl
    cases i with
    | zero =>
      simp only [List.getElem?_cons_zero, Option.some.injEq] at hi
      subst hi
      have := h4 j (by omega)
      rw [hz] at this
      rw [Nat.add_zero]
      show w.cell? (x.add (j * 1)) = _
      rw [Nat.mul_one]
      exact this
    | succ i => simp at hi

end Go.Proofs.Ytnoocdobldchoaa
