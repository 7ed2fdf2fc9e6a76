/- What Share answers. -/
import Derived.Test.YtnoocdobldchoaaD2
import Derived.Test.YtnoocdobldchoaaC1
namespace Go.Proofs.Ytnoocdobldchoaa
open Go.RowKit Go.Proofs.YtnoocdobldchoaaW.PrintWords Go.Proofs.YtnoocdobldchoaaW.PrintMore Go.Proofs.YtnoocdobldchoaaW.PrintLast

/-! ### What Share answers. -/
section
variable (w : World) (c0 c1 c2 c3 c4 c5 c6 : Array Value) (t0 t1 t2 t3 t4 t5 t6 : TypeId)
theorem h7_0 : (((((((w.alloc (.cells c0 t0)).alloc (.cells c1 t1)).alloc (.cells c2 t2)).alloc (.cells c3 t3)).alloc (.cells c4 t4)).alloc (.cells c5 t5)).alloc (.cells c6 t6)).heap[w.heap.size]? = some (.cells c0 t0 (0, 0)) := by
  show (((((((w.heap.push _).push _).push _).push _).push _).push _).push _)[w.heap.size]? = _
  simp only [Array.getElem?_push, Array.size_push]
  repeat (first | rw [if_neg (by omega)] | rw [if_pos rfl] | rw [if_pos trivial])
theorem h7_1 : (((((((w.alloc (.cells c0 t0)).alloc (.cells c1 t1)).alloc (.cells c2 t2)).alloc (.cells c3 t3)).alloc (.cells c4 t4)).alloc (.cells c5 t5)).alloc (.cells c6 t6)).heap[w.heap.size + 1]? = some (.cells c1 t1 (0, 0)) := by
  show (((((((w.heap.push _).push _).push _).push _).push _).push _).push _)[w.heap.size + 1]? = _
  simp only [Array.getElem?_push, Array.size_push]
  repeat (first | rw [if_neg (by omega)] | rw [if_pos rfl] | rw [if_pos trivial])
theorem h7_2 : (((((((w.alloc (.cells c0 t0)).alloc (.cells c1 t1)).alloc (.cells c2 t2)).alloc (.cells c3 t3)).alloc (.cells c4 t4)).alloc (.cells c5 t5)).alloc (.cells c6 t6)).heap[w.heap.size + 1 + 1]? = some (.cells c2 t2 (0, 0)) := by
  show (((((((w.heap.push _).push _).push _).push _).push _).push _).push _)[w.heap.size + 1 + 1]? = _
  simp only [Array.getElem?_push, Array.size_push]
  repeat (first | rw [if_neg (by omega)] | rw [if_pos rfl] | rw [if_pos trivial])
theorem h7_3 : (((((((w.alloc (.cells c0 t0)).alloc (.cells c1 t1)).alloc (.cells c2 t2)).alloc (.cells c3 t3)).alloc (.cells c4 t4)).alloc (.cells c5 t5)).alloc (.cells c6 t6)).heap[w.heap.size + 1 + 1 + 1]? = some (.cells c3 t3 (0, 0)) := by
  show (((((((w.heap.push _).push _).push _).push _).push _).push _).push _)[w.heap.size + 1 + 1 + 1]? = _
  simp only [Array.getElem?_push, Array.size_push]
  repeat (first | rw [if_neg (by omega)] | rw [if_pos rfl] | rw [if_pos trivial])
theorem h7_4 : (((((((w.alloc (.cells c0 t0)).alloc (.cells c1 t1)).alloc (.cells c2 t2)).alloc (.cells c3 t3)).alloc (.cells c4 t4)).alloc (.cells c5 t5)).alloc (.cells c6 t6)).heap[w.heap.size + 1 + 1 + 1 + 1]? = some (.cells c4 t4 (0, 0)) := by
  show (((((((w.heap.push _).push _).push _).push _).push _).push _).push _)[w.heap.size + 1 + 1 + 1 + 1]? = _
  simp only [Array.getElem?_push, Array.size_push]
  repeat (first | rw [if_neg (by omega)] | rw [if_pos rfl] | rw [if_pos trivial])
theorem h7_5 : (((((((w.alloc (.cells c0 t0)).alloc (.cells c1 t1)).alloc (.cells c2 t2)).alloc (.cells c3 t3)).alloc (.cells c4 t4)).alloc (.cells c5 t5)).alloc (.cells c6 t6)).heap[w.heap.size + 1 + 1 + 1 + 1 + 1]? = some (.cells c5 t5 (0, 0)) := by
  show (((((((w.heap.push _).push _).push _).push _).push _).push _).push _)[w.heap.size + 1 + 1 + 1 + 1 + 1]? = _
  simp only [Array.getElem?_push, Array.size_push]
  repeat (first | rw [if_neg (by omega)] | rw [if_pos rfl] | rw [if_pos trivial])
theorem h7_6 : (((((((w.alloc (.cells c0 t0)).alloc (.cells c1 t1)).alloc (.cells c2 t2)).alloc (.cells c3 t3)).alloc (.cells c4 t4)).alloc (.cells c5 t5)).alloc (.cells c6 t6)).heap[w.heap.size + 1 + 1 + 1 + 1 + 1 + 1]? = some (.cells c6 t6 (0, 0)) := by
  show (((((((w.heap.push _).push _).push _).push _).push _).push _).push _)[w.heap.size + 1 + 1 + 1 + 1 + 1 + 1]? = _
  simp only [Array.getElem?_push, Array.size_push]
  repeat (first | rw [if_neg (by omega)] | rw [if_pos rfl] | rw [if_pos trivial])
theorem h7_b : Below w.heap.size w (((((((w.alloc (.cells c0 t0)).alloc (.cells c1 t1)).alloc (.cells c2 t2)).alloc (.cells c3 t3)).alloc (.cells c4 t4)).alloc (.cells c5 t5)).alloc (.cells c6 t6)) := (below_alloc (below_alloc (below_alloc (below_alloc (below_alloc (below_alloc (below_alloc (Below.refl _ _) _) _) _) _) _) _) _)
end
/-- The search's memory, as it is laid. -/
theorem sh_made (w6 : World) (bt bp : Nat) (A : Option Addr) (c : Nat) (ts : List Int) (P : Nat) (mo : Int) (h1 : Blk w6 bt [.slice A ts.length c] 22) (h2 : Blk w6 bp [.int .i64 P] 3) (hr : (Kd.int .i64).C w6 A ts.length ts) {N : Nat} (ra : 0 < ts.length → ∀ ad, A = some ad → ad.block < N) (hN : N ≤ w6.heap.size) :
    SH N (w6.heap.size + 1 + 1 + 1 + 1 + 1) bt (w6.heap.size + 1 + 1) (w6.heap.size + 1 + 1 + 1) bp (w6.heap.size + 1 + 1 + 1 + 1) (w6.heap.size + 1 + 1 + 1 + 1 + 1 + 1) w6.heap.size A c ts P (some ⟨w6.heap.size + 1, 0, none⟩) 0 0 ([], mo + 1) (fun _ => 0) (List.replicate ts.length 0)
      (((((((w6.alloc (.cells (madeCells #[.int .i64 0] ts.length) 3)).alloc (.cells #[] 3)).alloc (.cells #[.slice (some ⟨w6.heap.size, 0, none⟩) ts.length ts.length] 22)).alloc (.cells #[.slice (some ⟨w6.heap.size + 1, 0, none⟩) 0 0] 22)).alloc (.cells #[.int .i64 0, .int .i64 0, .int .i64 0, .int .i64 0] 68)).alloc (.cells #[.int .i64 (mo + 1)] 3)).alloc (.cells #[.func (.func 48) #[] #[.pointer (some ⟨w6.heap.size + 1 + 1 + 1 + 1 + 1, 0, none⟩), .pointer (some ⟨bt, 0, none⟩), .pointer (some ⟨w6.heap.size + 1 + 1, 0, none⟩), .pointer (some ⟨w6.heap.size + 1 + 1 + 1, 0, none⟩), .pointer (some ⟨bp, 0, none⟩), .pointer (some ⟨w6.heap.size + 1 + 1 + 1 + 1, 0, none⟩), .pointer (some ⟨w6.heap.size + 1 + 1 + 1 + 1 + 1 + 1, 0, none⟩)]] 69)) := by
  have e1 := h1.lt
  have e2 := h2.lt
  have hB := h7_b w6 (madeCells #[.int .i64 0] ts.length) #[] #[.slice (some ⟨w6.heap.size, 0, none⟩) ts.length ts.length] #[.slice (some ⟨w6.heap.size + 1, 0, none⟩) 0 0] #[.int .i64 0, .int .i64 0, .int .i64 0, .int .i64 0] #[.int .i64 (mo + 1)] #[.func (.func 48) #[] #[.pointer (some ⟨w6.heap.size + 1 + 1 + 1 + 1 + 1, 0, none⟩), .pointer (some ⟨bt, 0, none⟩), .pointer (some ⟨w6.heap.size + 1 + 1, 0, none⟩), .pointer (some ⟨w6.heap.size + 1 + 1 + 1, 0, none⟩), .pointer (some ⟨bp, 0, none⟩), .pointer (some ⟨w6.heap.size + 1 + 1 + 1 + 1, 0, none⟩), .pointer (some ⟨w6.heap.size + 1 + 1 + 1 + 1 + 1 + 1, 0, none⟩)]] 3 3 22 22 68 3 69
  exact {
    l := h7_5 ..
    t := h1.below hB
    r := Kd.C_below hr hB
    ra := ra
    g1 := h7_2 ..
    g2 := by
      have a := h7_0 w6 (madeCells #[.int .i64 0] ts.length) #[] #[.slice (some ⟨w6.heap.size, 0, none⟩) ts.length ts.length] #[.slice (some ⟨w6.heap.size + 1, 0, none⟩) 0 0] #[.int .i64 0, .int .i64 0, .int .i64 0, .int .i64 0] #[.int .i64 (mo + 1)] #[.func (.func 48) #[] #[.pointer (some ⟨w6.heap.size + 1 + 1 + 1 + 1 + 1, 0, none⟩), .pointer (some ⟨bt, 0, none⟩), .pointer (some ⟨w6.heap.size + 1 + 1, 0, none⟩), .pointer (some ⟨w6.heap.size + 1 + 1 + 1, 0, none⟩), .pointer (some ⟨bp, 0, none⟩), .pointer (some ⟨w6.heap.size + 1 + 1 + 1 + 1, 0, none⟩), .pointer (some ⟨w6.heap.size + 1 + 1 + 1 + 1 + 1 + 1, 0, none⟩)]] 3 3 22 22 68 3 69
      unfold Blk
      rw [a, made_ints]
    gl := by simp
    b1 := h7_3 ..
    b2 := ⟨rfl, by decide, fun h => absurd h (by decide)⟩
    b3 := fun h => absurd h (by decide)
    p := h2.below hB
    d := h7_4 ..
    s := h7_6 ..
    nl := by omega
    nb := by omega
    nd := by omega
    ng := by omega
    x1 := by omega
    x2 := by omega
    x3 := by omega
    x4 := by omega
    x5 := by omega }

/-- The finish of the rule of the longest works first. -/
def mostF (ts : List Int) (P : Nat) : Int := maxF (lls (lptF ts P (longOrd ts)).1 P)
def ShPost (ts : List Int) (p : Int) (w : World) (e : Ending) (w' : World) : Prop :=
  Below w.heap.size w w' ∧
  if worksE ts p = 0 then ∃ (B : Option Addr) (cap : Nat) (F : Int) (l : List Int), e = .returned (.tuple #[.slice B ts.length cap, .int .i64 F, .int .i64 0]) ∧ (Kd.int .i64).C w' B ts.length l ∧ ShIs ts p.toNat F l
  else e = .returned (.tuple #[.slice none 0 0, .int .i64 0, .int .i64 (worksE ts p)])

set_option maxRecDepth 100000 in
set_option maxHeartbeats 8000000 in
theorem share_any (w : World) (A : Option Addr) (c : Nat) (ts : List Int) (p : Int) (h : (Kd.int .i64).C w A ts.length ts)
    (hfree : worksE ts p = 0 → 0 ≤ mostF ts p.toNat ∧ mostF ts p.toNat ≤ 12884901888 ∧ ∃ l, Free (mostF ts p.toNat) 12 p.toNat ts zf l) :
    Calls Try.prog 23 #[.slice A ts.length c, .int .i64 p] w (ShPost ts p w) := by
  have hl0 := Kd.C_max h
  have ra := C_lt h
  have hb2 := below_alloc (below_alloc (Below.refl w.heap.size w) (.cells #[.slice A ts.length c] 22)) (.cells #[.int .i64 p] 3)
  have B1 := (Blk.new w [.slice A ts.length c] 22).alloc (.cells #[.int .i64 p] 3)
  have B2 := Blk.new (w.alloc (.cells #[.slice A ts.length c] 22)) [.int .i64 p] 3
  rw [World.size_alloc] at B2
  have hwk := works_any _ A c ts p (Kd.C_below h hb2)
  obtain ⟨w2, hw2⟩ : ∃ z, z = (w.alloc (.cells #[.slice A ts.length c] 22)).alloc (.cells #[.int .i64 p] 3) := ⟨_, rfl⟩
  have hs2 : w2.heap.size = w.heap.size + 1 + 1 := by rw [hw2]; simp
  rw [← hw2] at B1 B2 hb2 hwk
  have HWK := Aside0.mk hwk
  have HW2 := Aside0.mk hw2
  have HB2 := Aside0.mk (And.intro hb2 (And.intro B1 B2))
  have HF := Aside0.mk hfree
  have HR := Aside0.mk h
  clear hwk hw2 hb2 B1 B2 hfree h
  obtain ⟨e0, he0⟩ : ∃ z, z = worksE ts p := ⟨_, rfl⟩
  rw [← he0] at HWK
  have HE := Aside0.mk he0; clear he0
  go_enter Try.func23, Try.ntmps23
  go_upto_region 2 with (first | (rw [← HW2.out]; (with_reducible refine HWK.out.mono ?_); rintro e5 w5 ⟨rfl, rfl⟩))
  by_cases hz : e0 = 0
  · obtain ⟨hms, hp1, hp4⟩ := MOK.of_W (HE.out.symm.trans hz)
    obtain ⟨hm0, hm1, hfr⟩ := HF.out (HE.out.symm.trans hz)
    have hE := HE.out
    subst hz
    obtain ⟨P, rfl⟩ : ∃ P : Nat, p = P := ⟨p.toNat, by omega⟩
    rw [Int.toNat_natCast] at hm0 hm1 hfr
    have hml := hms.1
    have hlp0 := longest_any w2 A c ts P (Kd.C_below HR.out HB2.out.1) hms (by omega) (by omega)
    have hlp : Calls Try.prog 47 #[.slice A ts.length c, .int .i64 P] w2 fun e w' => Below w2.heap.size w2 w' ∧ ∃ gg : Nat, e = .returned (.tuple #[.slice (some ⟨gg, 0, none⟩) ts.length ts.length, .int .i64 (mostF ts P)]) :=
      hlp0.mono fun e w' ⟨a, gg, b, _⟩ => ⟨a, gg, b⟩
    obtain ⟨mo, hmo⟩ : ∃ z, z = mostF ts P := ⟨_, rfl⟩
    rw [← hmo] at hlp hm0 hm1 hfr
    have HLP := Aside0.mk hlp
    have HFR := Aside0.mk hfr
    have HMS := Aside0.mk hms
    have HMO := Aside0.mk hmo
    clear hlp0 hlp hfr hms hmo hE
    have c1 := HB2.out.2.1.at_ (i := 0) rfl
    have c2 := HB2.out.2.2.at_ (i := 0) rfl
    have mk1 := print_make (P := Try.prog) 22 3 .i64 8 Try.underlying22 info3 (by decide) ts.length (by omega)
    go_upto_region 5 with ((with_reducible refine HLP.out.mono ?_); rintro e6 w6 ⟨hb6, gg, rfl⟩; have H6 := Aside0.mk hb6; clear hb6)
    have hb6 := H6.out
    have R1 := HB2.out.2.1.below hb6
    have R2 := HB2.out.2.2.below hb6
    have hs6 : w.heap.size + 1 < w6.heap.size := by have := hb6.size; omega
    have l1 : w.heap.size < w6.heap.size := by omega
    clear c1 c2 hb6
    have c1 := R1.at_ (i := 0) rfl
    have c2 := R2.at_ (i := 0) rfl
    have HR1 := Aside0.mk (And.intro R1 R2); clear R1 R2
    go_upto_region 10 with fail
    clear mk1 c1 c2
    have K := Aside0.mk (sh_made w6 w.heap.size (w.heap.size + 1) A c ts P mo HR1.out.1 HR1.out.2 (Kd.C_below HR.out (below_step HB2.out.1 H6.out)) ra (by omega))
    have KB := Aside0.mk (h7_b w6 (madeCells #[.int .i64 0] ts.length) #[] #[.slice (some ⟨w6.heap.size, 0, none⟩) ts.length ts.length] #[.slice (some ⟨w6.heap.size + 1, 0, none⟩) 0 0] #[.int .i64 0, .int .i64 0, .int .i64 0, .int .i64 0] #[.int .i64 (mo + 1)] #[.func (.func 48) #[] #[.pointer (some ⟨w6.heap.size + 1 + 1 + 1 + 1 + 1, 0, none⟩), .pointer (some ⟨w.heap.size, 0, none⟩), .pointer (some ⟨w6.heap.size + 1 + 1, 0, none⟩), .pointer (some ⟨w6.heap.size + 1 + 1 + 1, 0, none⟩), .pointer (some ⟨w.heap.size + 1, 0, none⟩), .pointer (some ⟨w6.heap.size + 1 + 1 + 1 + 1, 0, none⟩), .pointer (some ⟨w6.heap.size + 1 + 1 + 1 + 1 + 1 + 1, 0, none⟩)]] 3 3 22 22 68 3 69)
    generalize hw8 : (((((((w6.alloc (.cells (madeCells #[.int .i64 0] ts.length) 3)).alloc (.cells #[] 3)).alloc (.cells #[.slice (some ⟨w6.heap.size, 0, none⟩) ts.length ts.length] 22)).alloc (.cells #[.slice (some ⟨w6.heap.size + 1, 0, none⟩) 0 0] 22)).alloc (.cells #[.int .i64 0, .int .i64 0, .int .i64 0, .int .i64 0] 68)).alloc (.cells #[.int .i64 (mo + 1)] 3)).alloc (.cells #[.func (.func 48) #[] #[.pointer (some ⟨w6.heap.size + 1 + 1 + 1 + 1 + 1, 0, none⟩), .pointer (some ⟨w.heap.size, 0, none⟩), .pointer (some ⟨w6.heap.size + 1 + 1, 0, none⟩), .pointer (some ⟨w6.heap.size + 1 + 1 + 1, 0, none⟩), .pointer (some ⟨w.heap.size + 1, 0, none⟩), .pointer (some ⟨w6.heap.size + 1 + 1 + 1 + 1, 0, none⟩), .pointer (some ⟨w6.heap.size + 1 + 1 + 1 + 1 + 1 + 1, 0, none⟩)]] 69)) = w8 at *
    have B8 : Below w.heap.size w w8 := below_step (below_step HB2.out.1 H6.out) KB.out
    have hf := K.out.s.at_ (i := 0) rfl
    have hcall := Aside0.mk (sh_any HMS.out (by omega) _ 0 0 w8 ([], mo + 1) _ _ _ (fun _ => 0) _ rfl (by omega) (by omega) K.out B8.size (by omega) (by omega) (fun _ => by omega))
    have HB8 := Aside0.mk B8
    have HS6 := Aside0.mk hs6
    clear B8 hw8 KB
    go_upto_region 11 with ((with_reducible refine hcall.out.mono ?_); rintro e9 w9 ⟨rfl, hp9⟩; have H9 := Aside0.mk hp9; clear hp9)
    obtain ⟨k9, gv9, ⟨B9, n9, cap9, hS9⟩, _⟩ := H9.out
    obtain ⟨l0, hl0⟩ := HFR.out
    obtain ⟨F, l, hF0, hF1, hsh, hIs⟩ := shF_best HMS.out hm0 hl0
    rw [show ts.drop (0 : Int).toNat = ts from rfl, show (List.replicate ts.length (0 : Int)).take (0 : Int).toNat = [] from rfl, hsh] at hS9
    have hn9 : n9 = ts.length := by
      have a := hS9.b2.1
      have b := hIs.2.1.length
      dsimp only at a
      omega
    subst hn9
    have hb9 : Below w.heap.size w w9 := ((Kp.of_below HB8.out : Kp (SF (w6.heap.size + 1 + 1 + 1 + 1 + 1) (w6.heap.size + 1 + 1 + 1) (w6.heap.size + 1 + 1 + 1 + 1) w6.heap.size) w w8).step k9).below_of (fun i hi => by have := HS6.out; rcases hi with e | e | e | e <;> omega)
    have c1 := hS9.b1.at_ (i := 0) rfl
    have c2 := hS9.l.at_ (i := 0) rfl
    have HS9 := Aside0.mk hS9.b2
    have HI := Aside0.mk hIs
    have HB9 := Aside0.mk hb9
    clear hS9 hIs hb9 hsh k9 hl0 hf hcall K HR1 H9
    dsimp only at c2
    go_quiet (fail)
    go_wp2_with fail
    refine bodyPost_ret (v := .tuple #[.slice B9 ts.length cap9, .int .i64 F, .int .i64 0]) (by simp [results, Try.results23, go_sem]) rfl ?_
    refine ⟨pw_below_drewN HB9.out _, ?_⟩
    rw [if_pos HE.out.symm]
    exact ⟨B9, cap9, F, l, rfl, Kd.C_below HS9.out (bdN _ _), HI.out⟩
  · have hzb : (e0 != 0) = true := by simp [hz]
    go_wp2_with fail
    refine bodyPost_ret (v := .tuple #[.slice none 0 0, .int .i64 0, .int .i64 e0]) (by simp [results, Try.results23, go_sem]) rfl ?_
    exact ⟨HB2.out.1, by rw [← HE.out, if_neg hz]⟩

/-! ### The assignment of the longest works first is one with the finish that is told. -/
theorem insR_perm (cf : Int → Int → Int) (x : Int) : ∀ l, (insR cf x l).Perm (x :: l) := by
  intro l
  induction l with
  | nil => exact List.Perm.refl _
  | cons y l ih =>
    unfold insR
    split
    · exact (ih.cons y).trans (List.Perm.swap x y l)
    · exact List.Perm.refl _
theorem srt_perm (cf : Int → Int → Int) (l : List Int) : (srt cf l).Perm l := by
  have key : ∀ (l acc : List Int), (l.foldl (fun acc x => insR cf x acc) acc).Perm (l ++ acc) := by
    intro l
    induction l with
    | nil => intro acc; exact List.Perm.refl _
    | cons a l ih =>
      intro acc
      rw [List.foldl_cons]
      refine (ih _).trans ?_
      refine ((insR_perm cf a acc).append_left l).trans ?_
      exact List.perm_middle
  unfold srt srtR
  refine (List.reverse_perm _).trans ?_
  have := key l []
  rwa [List.append_nil] at this
theorem upto_nodup (n : Nat) : (upto n).Nodup := by
  unfold upto
  exact List.Pairwise.map _ (fun a b (h : a ≠ b) => by show (a : Int) ≠ (b : Int); omega) List.nodup_range
theorem longOrd_nodup (ts : List Int) : (longOrd ts).Nodup := (srt_perm _ _).nodup_iff.2 (upto_nodup _)
theorem longOrd_mem (ts : List Int) (x : Int) : x ∈ longOrd ts ↔ 0 ≤ x ∧ x < ts.length := by
  unfold longOrd; rw [srt_perm_mem]; exact upto_mem _ x

/-- The times given to press k, of the works in O. -/
def given (ts gv : List Int) (k : Nat) (O : List Int) : Int := (O.map fun x => if rd gv x = (k : Int) then rd ts x else 0).sum
theorem rd_set_ne (gv : List Int) (x y : Int) (v : Int) (hx : 0 ≤ x) (hy : 0 ≤ y) (h : x ≠ y) : rd (gv.set x.toNat v) y = rd gv y := by
  unfold rd
  rw [List.getD_eq_getElem?_getD, List.getD_eq_getElem?_getD, List.getElem?_set_ne (by omega)]
theorem rd_set_eq (gv : List Int) (x : Int) (v : Int) (h : x.toNat < gv.length) : rd (gv.set x.toNat v) x = v := by
  unfold rd
  rw [List.getD_eq_getElem?_getD, List.getElem?_set_self h]
  rfl
theorem lpt_keep (ts : List Int) (P : Nat) : ∀ (O : List Int) (s : (Nat → Int) × List Int) (y : Int), 0 ≤ y → (∀ x ∈ O, 0 ≤ x) → y ∉ O → rd (O.foldl (lstep ts P) s).2 y = rd s.2 y := by
  intro O
  induction O with
  | nil => intro s y _ _ _; rfl
  | cons x O ih =>
    intro s y hy h0 hn
    rw [List.foldl_cons, ih _ y hy (fun z hz => h0 z (List.mem_cons_of_mem _ hz)) (fun h => hn (List.mem_cons_of_mem _ h))]
    exact rd_set_ne _ _ _ _ (h0 x List.mem_cons_self) hy (fun e => hn (e ▸ List.mem_cons_self))
theorem lpt_len (ts : List Int) (P : Nat) : ∀ (O : List Int) (s : (Nat → Int) × List Int), (O.foldl (lstep ts P) s).2.length = s.2.length := by
  intro O
  induction O with
  | nil => intro s; rfl
  | cons x O ih => intro s; rw [List.foldl_cons, ih]; simp [lstep]
theorem lpt_spec (ts : List Int) {P : Nat} (hP : 0 < P) : ∀ (O : List Int) (s : (Nat → Int) × List Int), O.Nodup → (∀ x ∈ O, 0 ≤ x ∧ x < s.2.length) →
    (∀ k, (O.foldl (lstep ts P) s).1 k = s.1 k + given ts (O.foldl (lstep ts P) s).2 k O) ∧ ∀ x ∈ O, 0 ≤ rd (O.foldl (lstep ts P) s).2 x ∧ rd (O.foldl (lstep ts P) s).2 x < P := by
  intro O
  induction O with
  | nil => intro s _ _; exact ⟨fun k => by simp [given], fun x hx => by simp at hx⟩
  | cons x O ih =>
    intro s hn hr
    rw [List.nodup_cons] at hn
    have hx := hr x List.mem_cons_self
    have hlen : (lstep ts P s x).2.length = s.2.length := by simp [lstep]
    obtain ⟨i1, i2⟩ := ih (lstep ts P s x) hn.2 (fun z hz => by rw [hlen]; exact hr z (List.mem_cons_of_mem _ hz))
    have hk : rd (O.foldl (lstep ts P) (lstep ts P s x)).2 x = (minK s.1 P : Nat) := by
      rw [lpt_keep ts P O _ x hx.1 (fun z hz => (hr z (List.mem_cons_of_mem _ hz)).1) hn.1]
      exact rd_set_eq _ _ _ (by omega)
    have hlt := minK_lt s.1 hP P (Nat.le_refl _)
    rw [List.foldl_cons]
    refine ⟨fun k => ?_, fun z hz => ?_⟩
    · rw [i1 k]
      unfold given
      rw [List.map_cons, List.sum_cons, hk]
      have : (lstep ts P s x).1 k = s.1 k + if ((minK s.1 P : Nat) : Int) = (k : Int) then rd ts x else 0 := by
        show upd s.1 (minK s.1 P) (rd ts x) k = _
        unfold upd
        by_cases h : k = minK s.1 P
        · rw [if_pos h, if_pos (by omega), h]
        · rw [if_neg h, if_neg (by omega)]; omega
      rw [this]; omega
    · rcases List.mem_cons.1 hz with rfl | hz
      · rw [hk]; omega
      · exact i2 z hz
/-- An assignment whose sums are at most F. -/
theorem free_of_sums {P : Nat} {F : Int} : ∀ (ts : List Int) (f : Nat → Int × Int) (l : List Int), l.length = ts.length → (∀ t ∈ ts, 0 ≤ t) → (∀ b ∈ l, 0 ≤ b ∧ b < P) →
    (∀ k : Nat, (f k).1 + ((List.zip l ts).map fun q => if q.1 = (k : Int) then q.2 else 0).sum ≤ F) → (∀ k, (f k).2 + ts.length ≤ 12) → Free F 12 P ts f l := by
  intro ts
  induction ts with
  | nil => intro f l hl _ _ _ _; exact List.eq_nil_of_length_eq_zero hl
  | cons t ts ih =>
    intro f l hl h0 hb hs hc
    cases l with
    | nil => simp at hl
    | cons b l =>
      have hb0 := hb b List.mem_cons_self
      have hnn : ∀ (l ts : List Int) (k : Nat), (∀ t ∈ ts, 0 ≤ t) → 0 ≤ ((List.zip l ts).map fun q => if q.1 = (k : Int) then q.2 else 0).sum := by
        intro l
        induction l with
        | nil => intro ts k _; simp
        | cons a l ih =>
          intro ts k h
          cases ts with
          | nil => simp
          | cons u ts =>
            rw [List.zip_cons_cons, List.map_cons, List.sum_cons]
            have := ih ts k (fun z hz => h z (List.mem_cons_of_mem _ hz))
            have := h u List.mem_cons_self
            split <;> omega
      have hsb := hs b.toNat
      rw [List.zip_cons_cons, List.map_cons, List.sum_cons, if_pos (by show b = (b.toNat : Int); omega)] at hsb
      have h2 := hnn l ts b.toNat (fun z hz => h0 z (List.mem_cons_of_mem _ hz))
      have hcb := hc b.toNat
      simp only [List.length_cons, Int.natCast_add] at hcb
      refine ⟨b.toNat, l, by rw [Int.toNat_of_nonneg hb0.1], by omega, by dsimp only at hsb; omega, by omega, ih _ _ (by simpa using hl) (fun z hz => h0 z (List.mem_cons_of_mem _ hz)) (fun z hz => hb z (List.mem_cons_of_mem _ hz)) (fun k => ?_) (fun k => ?_)⟩
      · have a := hs k
        rw [List.zip_cons_cons, List.map_cons, List.sum_cons] at a
        dsimp only at a
        unfold put
        by_cases h : k = b.toNat
        · subst h
          rw [if_pos rfl]
          rw [if_pos (by omega)] at a
          dsimp only; omega
        · rw [if_neg h]
          rw [if_neg (by omega)] at a
          omega
      · have a := hc k
        simp only [List.length_cons, Int.natCast_add] at a
        unfold put
        by_cases h : k = b.toNat
        · subst h; rw [if_pos rfl]; dsimp only; omega
        · rw [if_neg h]; omega
theorem zip_upto (ts gv : List Int) (k : Nat) (h : gv.length = ts.length) : ((List.zip gv ts).map fun q => if q.1 = (k : Int) then q.2 else 0).sum = given ts gv k (upto ts.length) := by
  unfold given upto
  congr 1
  apply List.ext_getElem (by simp [h])
  intro i h1 h2
  simp only [List.length_map, List.length_zip, List.length_range] at h1 h2
  simp [rd, List.getD_eq_getElem?_getD, List.getElem?_eq_getElem (show i < gv.length by omega), List.getElem?_eq_getElem (show i < ts.length by omega)]
theorem perm_sum {l l' : List Int} (h : l.Perm l') : l.sum = l'.sum := by
  induction h with
  | nil => rfl
  | cons x _ ih => rw [List.sum_cons, List.sum_cons, ih]
  | swap x y l => rw [List.sum_cons, List.sum_cons, List.sum_cons, List.sum_cons]; omega
  | trans _ _ ih1 ih2 => exact ih1.trans ih2
theorem given_perm (ts gv : List Int) (k : Nat) {O O' : List Int} (h : O.Perm O') : given ts gv k O = given ts gv k O' := by
  unfold given
  exact perm_sum (h.map _)
theorem maxF_ge (xs : List Int) (i : Nat) (h : i < xs.length) : xs.getD i 0 ≤ maxF xs := by
  have key : ∀ (l : List Int) (m : Int), m ≤ l.foldl max m ∧ ∀ x ∈ l, x ≤ l.foldl max m := by
    intro l
    induction l with
    | nil => intro m; exact ⟨Int.le_refl _, fun x hx => by simp at hx⟩
    | cons a l ih =>
      intro m
      rw [List.foldl_cons]
      have := ih (max m a)
      refine ⟨by omega, fun x hx => ?_⟩
      rcases List.mem_cons.1 hx with rfl | hx
      · omega
      · exact this.2 x hx
  cases xs with
  | nil => simp at h
  | cons a xs =>
    cases i with
    | zero => exact (key xs a).1
    | succ i =>
      have hi : i < xs.length := by simpa using h
      refine (key xs a).2 _ ?_
      rw [List.getD_eq_getElem?_getD, List.getElem?_cons_succ, List.getElem?_eq_getElem hi]
      exact List.getElem_mem _
theorem maxF_le (xs : List Int) (c : Int) (h1 : 0 < xs.length) (h : ∀ x ∈ xs, x ≤ c) : maxF xs ≤ c := by
  cases xs with
  | nil => simp at h1
  | cons a xs =>
    show xs.foldl max a ≤ c
    have key : ∀ (l : List Int) (m : Int), m ≤ c → (∀ x ∈ l, x ≤ c) → l.foldl max m ≤ c := by
      intro l
      induction l with
      | nil => intro m hm _; exact hm
      | cons b l ih =>
        intro m hm hl
        rw [List.foldl_cons]
        have := hl b List.mem_cons_self
        exact ih _ (by omega) (fun x hx => hl x (List.mem_cons_of_mem _ hx))
    exact key xs a (h a List.mem_cons_self) (fun x hx => h x (List.mem_cons_of_mem _ hx))
theorem most_free {ts : List Int} {P : Nat} (hms : MOK ts) (hP : 1 ≤ P) : 0 ≤ mostF ts P ∧ mostF ts P ≤ 12884901888 ∧ Free (mostF ts P) 12 P ts zf (lptF ts P (longOrd ts)).2 := by
  have hlen : (lptF ts P (longOrd ts)).2.length = ts.length := by unfold lptF; rw [lpt_len]; simp
  obtain ⟨h1, h2⟩ := lpt_spec ts (P := P) (by omega) (longOrd ts) (fun _ => 0, List.replicate ts.length 0) (longOrd_nodup ts) (fun x hx => by simpa using (longOrd_mem ts x).1 hx)
  have h1' : ∀ k, (lptF ts P (longOrd ts)).1 k = given ts (lptF ts P (longOrd ts)).2 k (upto ts.length) := fun k => by
    have a := h1 k
    rw [given_perm ts _ k (show (longOrd ts).Perm (upto ts.length) from srt_perm _ _)] at a
    dsimp only at a
    rw [Int.zero_add] at a
    exact a
  have hnn : ∀ k (O : List Int), 0 ≤ given ts (lptF ts P (longOrd ts)).2 k O ∧ given ts (lptF ts P (longOrd ts)).2 k O ≤ O.length * 1073741824 := by
    intro k O
    induction O with
    | nil => exact ⟨by simp [given], by simp [given]⟩
    | cons x O ih =>
      unfold given at ih ⊢
      rw [List.map_cons, List.sum_cons, List.length_cons]
      have hrd : 0 ≤ rd ts x ∧ rd ts x ≤ 1073741824 := by
        by_cases hi : x.toNat < ts.length
        · have := hms.2 x.toNat hi
          unfold rd; omega
        · unfold rd; rw [List.getD_eq_getElem?_getD, List.getElem?_eq_none (by omega)]; simp
      split <;> omega
  have hml := hms.1
  have hge : ∀ k, k < P → (lptF ts P (longOrd ts)).1 k ≤ mostF ts P := fun k hk => by
    have a := maxF_ge (lls (lptF ts P (longOrd ts)).1 P) k (by rw [lls_length]; exact hk)
    rwa [lls_get _ hk] at a
  have h0 : 0 ≤ mostF ts P := by
    have a := hge 0 (by omega)
    have b := (hnn 0 (upto ts.length)).1
    rw [h1' 0] at a
    omega
  refine ⟨h0, ?_, ?_⟩
  · refine maxF_le _ _ (by rw [lls_length]; omega) (fun x hx => ?_)
    unfold lls at hx
    obtain ⟨k, _, rfl⟩ := List.mem_map.1 hx
    have b := (hnn k (upto ts.length)).2
    rw [upto_length] at b
    rw [h1' k]
    omega
  · refine free_of_sums ts zf _ hlen (fun t ht => by have := hms.pos t ht; omega) (fun b hb => ?_) (fun k => ?_) (fun k => by simp [zf]; omega)
    · obtain ⟨i, hi, rfl⟩ := mem_getD hb
      have a := h2 (i : Int) ((longOrd_mem ts i).2 ⟨by omega, by omega⟩)
      unfold rd at a
      rw [Int.toNat_natCast] at a
      exact a
    · rw [zip_upto _ _ _ hlen, ← h1' k]
      show 0 + _ ≤ _
      rw [Int.zero_add]
      rcases Nat.lt_or_ge k P with h | h
      · exact hge k h
      · rw [h1' k]
        have hz : given ts (lptF ts P (longOrd ts)).2 k (upto ts.length) = 0 := by
          unfold given
          have : ∀ O : List Int, (∀ x ∈ O, x ∈ longOrd ts) → (O.map fun x => if rd (lptF ts P (longOrd ts)).2 x = (k : Int) then rd ts x else 0).sum = 0 := by
            intro O
            induction O with
            | nil => intro _; simp
            | cons x O ih =>
              intro hO
              rw [List.map_cons, List.sum_cons, ih (fun z hz => hO z (List.mem_cons_of_mem _ hz))]
              have a := h2 x (hO x List.mem_cons_self)
              rw [if_neg]
              · omega
              · unfold lptF; omega
          exact this _ (fun x hx => (longOrd_mem ts x).2 ((upto_mem _ x).1 hx))
        omega
theorem share_all (w : World) (A : Option Addr) (c : Nat) (ts : List Int) (p : Int) (h : (Kd.int .i64).C w A ts.length ts) : Calls Try.prog 23 #[.slice A ts.length c, .int .i64 p] w (ShPost ts p w) :=
  share_any w A c ts p h fun e => by
    obtain ⟨hms, hp, _⟩ := MOK.of_W e
    obtain ⟨a, b, d⟩ := most_free (P := p.toNat) hms (by omega)
    exact ⟨a, b, _, d⟩

/-! ### More room never needs more boxes; one thing more never needs fewer, and one box more is enough; one press more is never later. -/
theorem Free.more {most most' each each' k k' : Int} (hm : most ≤ most') (he : each ≤ each') (hk : k ≤ k') : ∀ (ms : List Int) (f : Nat → Int × Int) (l : List Int), Free most each k ms f l → Free most' each' k' ms f l := by
  intro ms
  induction ms with
  | nil => intro f l h; exact h
  | cons m ms ih =>
    intro f l h
    obtain ⟨b, l', rfl, h1, h2, h3, h4⟩ := h
    exact ⟨b, l', rfl, by omega, by omega, by omega, ih _ _ h4⟩
/-- Without the last thing. -/
theorem Free.init {most each k : Int} (m : Int) : ∀ (ms : List Int) (f : Nat → Int × Int) (l : List Int), Free most each k (ms ++ [m]) f l → ∃ l', Free most each k ms f l' := by
  intro ms
  induction ms with
  | nil => intro f l _; exact ⟨[], rfl⟩
  | cons a ms ih =>
    intro f l h
    obtain ⟨b, l', rfl, h1, h2, h3, h4⟩ := h
    obtain ⟨l2, h5⟩ := ih _ _ h4
    exact ⟨_, b, l2, rfl, h1, h2, h3, h5⟩
/-- One thing more, in a box of its own. -/
theorem Free.snoc {most each : Int} {n : Nat} (m : Int) (hm : m ≤ most) (he : 1 ≤ each) : ∀ (ms : List Int) (f : Nat → Int × Int) (l : List Int), f n = (0, 0) → Free most each n ms f l → ∃ l', Free most each (n + 1 : Int) (ms ++ [m]) f l' := by
  intro ms
  induction ms with
  | nil => intro f l hf _; exact ⟨_, n, [], rfl, by omega, by rw [hf]; dsimp only; omega, by rw [hf]; dsimp only; omega, rfl⟩
  | cons a ms ih =>
    intro f l hf h
    obtain ⟨b, l', rfl, h1, h2, h3, h4⟩ := h
    obtain ⟨l2, h5⟩ := ih (put f b a) l' (by unfold put; rw [if_neg (by omega)]; exact hf) h4
    exact ⟨_, b, l2, rfl, by omega, h2, h3, h5⟩
/-- The least number of boxes. -/
def Num (ms : List Int) (most each : Int) (n : Int) : Prop := ∃ (A : Nat) (l : List Int), Best ms most each n A l
theorem Num.le {ms ms' : List Int} {most each most' each' n n' : Int} (h : Num ms most each n) (k : Num ms' most' each' n') (e : thingsE ms most each = 0) (e' : thingsE ms' most' each' = 0)
    (hf : ∀ l (j : Nat), n = j → Free most each j ms zf l → ∃ l', Free most' each' j ms' zf l') : n' ≤ n := by
  obtain ⟨_, l, h⟩ := h
  obtain ⟨_, l2, k⟩ := k
  obtain ⟨a, rfl, _, _, _, h2, _⟩ := h.1 e
  obtain ⟨b, rfl, _, _, _, _, _, k3⟩ := k.1 e'
  obtain ⟨l', h3⟩ := hf l a rfl h2.free
  rcases Nat.lt_or_ge a b with hab | hab
  · exact absurd h3 (k3 a hab l')
  · omega
/-- A free assignment as far as the least number goes. -/
theorem Num.pos {ms : List Int} {most each n : Int} (h : Num ms most each n) (e : thingsE ms most each = 0) : ∃ (a : Nat) (l : List Int), n = a ∧ a ≤ 12 ∧ Free most each a ms zf l ∧ ∀ j : Nat, j < a → ∀ l', ¬ Free most each j ms zf l' := by
  obtain ⟨_, l, h⟩ := h
  obtain ⟨a, rfl, ha, _, _, h2, _, h4⟩ := h.1 e
  exact ⟨a, l, rfl, by have := (MOK.of_E e).1.1; omega, h2.free, h4⟩
theorem thingsE_ok {ms : List Int} {most each : Int} (h1 : ms.length ≤ 12) (h2 : 1 ≤ most ∧ most ≤ 1073741824) (h3 : 1 ≤ each ∧ each ≤ 12) (h4 : ∀ m ∈ ms, 1 ≤ m ∧ m ≤ most) : thingsE ms most each = 0 := by
  unfold thingsE
  rw [if_neg (by omega), if_neg (by omega), if_neg, if_neg]
  · simp only [List.any_eq_true, decide_eq_true_eq, not_exists, not_and]
    intro m hm
    have := h4 m hm
    omega
  · simp only [List.any_eq_true, Bool.or_eq_true, decide_eq_true_eq, not_exists, not_and]
    intro m hm
    have := h4 m hm
    omega
theorem ok_of_E {ms : List Int} {most each : Int} (h : thingsE ms most each = 0) : ms.length ≤ 12 ∧ (1 ≤ most ∧ most ≤ 1073741824) ∧ (1 ≤ each ∧ each ≤ 12) ∧ ∀ m ∈ ms, 1 ≤ m ∧ m ≤ most := by
  obtain ⟨a, b, c, d⟩ := MOK.of_E h
  exact ⟨a.1, b, c, fun m hm => ⟨a.pos m hm, by obtain ⟨i, hi, rfl⟩ := mem_getD hm; exact d i hi⟩⟩
/-- More room. -/
theorem ease_room {ms : List Int} {most each most' each' n n' : Int} (h : Num ms most each n) (k : Num ms most' each' n') (e : thingsE ms most each = 0) (hm : most ≤ most' ∧ most' ≤ 1073741824) (he : each ≤ each' ∧ each' ≤ 12) : thingsE ms most' each' = 0 ∧ n' ≤ n := by
  obtain ⟨a, b, c, d⟩ := ok_of_E e
  have e' : thingsE ms most' each' = 0 := thingsE_ok a (by omega) (by omega) (fun m hm' => by have := d m hm'; omega)
  exact ⟨e', h.le k e e' fun l j _ hf => ⟨l, hf.more hm.1 he.1 (Int.le_refl _)⟩⟩
/-- One thing more. -/
theorem ease_plus {ms : List Int} {most each n n' : Int} (hl : ms.length ≤ 11) (h : Num ms most each n) (k : Num (ms ++ [1]) most each n') (e : thingsE ms most each = 0) : thingsE (ms ++ [1]) most each = 0 ∧ n ≤ n' ∧ n' ≤ n + 1 := by
  obtain ⟨a, b, c, d⟩ := ok_of_E e
  have e' : thingsE (ms ++ [1]) most each = 0 := thingsE_ok (by simp; omega) b c (fun m hm' => by
    rcases List.mem_append.1 hm' with hm' | hm'
    · exact d m hm'
    · rw [List.mem_singleton.1 hm']; omega)
  refine ⟨e', k.le h e' e fun l j _ hf => hf.init, ?_⟩
  obtain ⟨p, l, rfl, _, hf, _⟩ := h.pos e
  obtain ⟨q, l2, rfl, _, _, hmin⟩ := k.pos e'
  obtain ⟨l3, h3⟩ := Free.snoc 1 (by omega) c.1 ms zf l rfl hf
  rcases Nat.lt_or_ge (p + 1) q with hq | hq
  · exact absurd h3 (by have := hmin (p + 1) hq l3; rwa [show ((p + 1 : Nat) : Int) = (p : Int) + 1 by omega] at this)
  · omega
/-- One press more. -/
theorem ease_press {ts : List Int} {P Q : Nat} {F G : Int} {l m : List Int} (h : ShIs ts P F l) (k : ShIs ts Q G m) (hPQ : P ≤ Q) : G ≤ F := by
  rcases (show F < G ∨ G ≤ F by omega) with a | a
  · exact absurd (h.2.1.more (Int.le_refl _) (Int.le_refl _) (by omega)) (k.2.2.1 F l h.1 a)
  · exact a
theorem works_more {ts : List Int} {p : Int} (h : worksE ts p = 0) (hp : p < 4) : worksE ts (p + 1) = 0 := by
  obtain ⟨_, h1, _⟩ := MOK.of_W h
  unfold worksE at *
  by_cases a : 12 < ts.length
  · rw [if_pos a] at h; omega
  · rw [if_neg a] at h ⊢
    rw [if_neg (by omega)] at h ⊢
    exact h

end Go.Proofs.Ytnoocdobldchoaa
