/- The reference's search: its memory, and what a call of it answers. -/
import Derived.Test.YtnoocdobldchoaaA1
import Derived.Test.YtnoocdobldchoaaA2
namespace Go.Proofs.Ytnoocdobldchoaa
open Go.RowKit Go.Proofs.YtnoocdobldchoaaW.PrintWords Go.Proofs.YtnoocdobldchoaaW.PrintMore Go.Proofs.YtnoocdobldchoaaW.PrintLast

/-! ### The reference's search: its memory, and what a call of it answers. -/
structure SM (N bs ga gl gc : Nat) (A : Option Addr) (c : Nat) (ms : List Int) (bins each most free : Int) (w : World) (bx : List (Int × Int)) (av : List Int) : Prop where
  s : Blk w bs [.slice A ms.length c, .int .i64 bins, .int .i64 each, .int .i64 most, .slice (some ⟨ga, 0, none⟩) ms.length ms.length, .slice (some ⟨gl, 0, none⟩) bx.length bx.length, .slice (some ⟨gc, 0, none⟩) bx.length bx.length, .int .i64 free] 85
  r : (Kd.int .i64).C w A ms.length ms
  ra : 0 < ms.length → ∀ ad, A = some ad → ad.block < N
  a : Blk w ga (ints av) 3
  al : av.length = ms.length
  l : Blk w gl (ints (bx.map Prod.fst)) 3
  k : Blk w gc (ints (bx.map Prod.snd)) 3
  bl : (bx.length : Int) = bins
  na : N ≤ ga
  nl : N ≤ gl
  nk : N ≤ gc
  d1 : ga ≠ gl
  d2 : ga ≠ gc
  d3 : gl ≠ gc

theorem map_fst_get (bx : List (Int × Int)) {i : Nat} (h : i < bx.length) : (ints (bx.map Prod.fst))[i]? = some (.int .i64 (bx.getD i (0, 0)).1) := by
  rw [ints_get _ (by simpa using h)]
  simp [List.getD_eq_getElem?_getD, List.getElem?_eq_getElem h]
theorem map_snd_get (bx : List (Int × Int)) {i : Nat} (h : i < bx.length) : (ints (bx.map Prod.snd))[i]? = some (.int .i64 (bx.getD i (0, 0)).2) := by
  rw [ints_get _ (by simpa using h)]
  simp [List.getD_eq_getElem?_getD, List.getElem?_eq_getElem h]

section
variable {N bs ga gl gc : Nat} {A : Option Addr} {c : Nat} {ms : List Int} {bins each most free : Int} {w w1 : World} {bx bx1 : List (Int × Int)} {av av1 : List Int}
def SS (ga gl gc : Nat) : Nat → Prop := fun i => i = ga ∨ i = gl ∨ i = gc
theorem SM.kp (h : SM N bs ga gl gc A c ms bins each most free w bx av) (hN : N ≤ w.heap.size) {S : Nat → Prop} (k : Kp S w w1) (hS : ∀ i, S i → SS ga gl gc i) (ha : Blk w1 ga (ints av1) 3) (hal : av1.length = ms.length)
    (hl : Blk w1 gl (ints (bx1.map Prod.fst)) 3) (hk : Blk w1 gc (ints (bx1.map Prod.snd)) 3) (hb : bx1.length = bx.length) : SM N bs ga gl gc A c ms bins each most free w1 bx1 av1 :=
  { h with
    s := by
      rw [hb]
      refine h.s.kp k ?_
      intro hs
      rcases hS _ hs with e | e | e
      · exact h.s.ne_of_type h.a (by decide) e
      · exact h.s.ne_of_type h.l (by decide) e
      · exact h.s.ne_of_type h.k (by decide) e
    r := C_kp h.r k fun hp ad e => ⟨Nat.lt_of_lt_of_le (h.ra hp ad e) hN, fun hs => by
      have h1 := h.ra hp ad e; have h2 := h.na; have h3 := h.nl; have h4 := h.nk
      rcases hS _ hs with h5 | h5 | h5 <;> omega⟩
    a := ha
    al := hal
    l := hl
    k := hk
    bl := by rw [hb]; exact h.bl }
theorem SM.drewN (h : SM N bs ga gl gc A c ms bins each most free w bx av) (n : Nat) : SM N bs ga gl gc A c ms bins each most free (w.drewN n) bx av := { h with }

/-- Thing i into box b. -/
theorem SM.setA (h : SM N bs ga gl gc A c ms bins each most free w bx av) (hN : N ≤ w.heap.size) (i : Nat) (v : Int) (n : Nat) : SM N bs ga gl gc A c ms bins each most free ((w.setCell ⟨ga, i, none⟩ (.int .i64 v)).drewN n) bx (av.set i v) :=
  h.kp hN (S := SS ga gl gc) (((Kp.refl _ w).setCell (fun _ => .inl rfl) _).drewN n) (fun _ h => h) ((by have := h.a.set i (.int .i64 v); rwa [ints_set] at this : Blk _ _ _ _).drewN n) (by simpa using h.al) ((h.l.far (Ne.symm h.d1) _).drewN n) ((h.k.far (Ne.symm h.d2) _).drewN n) rfl
/-- Both counts of box b are set. -/
theorem SM.setL (h : SM N bs ga gl gc A c ms bins each most free w bx av) (hN : N ≤ w.heap.size) (b : Nat) (x y : Int) (n m : Nat) :
    SM N bs ga gl gc A c ms bins each most free ((((w.setCell ⟨gl, b, none⟩ (.int .i64 x)).drewN n).setCell ⟨gc, b, none⟩ (.int .i64 y)).drewN m) (bx.set b (x, y)) av := by
  refine h.kp hN (S := SS ga gl gc) (((((Kp.refl _ w).setCell (fun _ => .inr (.inl rfl)) _).drewN n).setCell (fun _ => .inr (.inr rfl)) _).drewN m) (fun _ h => h) ((((h.a.far h.d1 _).drewN n).far h.d2 _).drewN m) h.al ?_ ?_ (by simp)
  · have := (((h.l.set b (.int .i64 x)).drewN n).far h.d3 (.int .i64 y) (p := ⟨gc, b, none⟩)).drewN m
    rw [ints_set] at this
    rwa [List.map_set]
  · have := (((h.k.far (Ne.symm h.d3) (.int .i64 x) (p := ⟨gl, b, none⟩)).drewN n).set b (.int .i64 y)).drewN m
    rw [ints_set] at this
    rwa [List.map_set]
end

def RRes (N bs ga gl gc : Nat) (A : Option Addr) (c : Nat) (ms : List Int) (bins each most free : Int) (rest : List Int) (i : Int) (used : Int) (bx : List (Int × Int)) (av : List Int) (w : World) (r : Bool) (w' : World) : Prop :=
  Kp (SS ga gl gc) w w' ∧
  match dfs most each bins rest used bx with
  | some l => r = true ∧ ∃ bx1, SM N bs ga gl gc A c ms bins each most free w' bx1 (av.take i.toNat ++ l)
  | none => r = false ∧ ∃ av1, SM N bs ga gl gc A c ms bins each most free w' bx av1 ∧ av1.take i.toNat = av.take i.toNat
def RPost (N bs ga gl gc : Nat) (A : Option Addr) (c : Nat) (ms : List Int) (bins each most free : Int) (rest : List Int) (i : Int) (used : Int) (bx : List (Int × Int)) (av : List Int) (w : World) (e : Ending) (w' : World) : Prop :=
  ∃ r, e = .returned (.bool r) ∧ RRes N bs ga gl gc A c ms bins each most free rest i used bx av w r w'
def RInv (N bs ga gl gc : Nat) (A : Option Addr) (c : Nat) (ms : List Int) (bins each most free : Int) (m : Int) (rest : List Int) (i : Int) (used : Int) (bx : List (Int × Int)) (av : List Int) (w : World) (b : Int) (wr : World) : Prop :=
  Kp (SS ga gl gc) w wr ∧ (∃ av1, SM N bs ga gl gc A c ms bins each most free wr bx av1 ∧ av1.take i.toNat = av.take i.toNat) ∧ ∀ k : Nat, (k : Int) < b → try_ most each bins m rest used bx k = none

/-- The boxes' contents, in their range: no box has more things than it takes. -/
def OKe (most each : Int) (bx : List (Int × Int)) : Prop := ∀ k, (0 ≤ (bx.getD k (0,0)).1 ∧ (bx.getD k (0,0)).1 ≤ most) ∧ 0 ≤ (bx.getD k (0,0)).2 ∧ (bx.getD k (0,0)).2 ≤ each
theorem OKe.set {most each : Int} {bx : List (Int × Int)} (h : OKe most each bx) (b : Nat) {x y : Int} (hx : 0 ≤ x ∧ x ≤ most) (hy : 0 ≤ y ∧ y ≤ each) : OKe most each (bx.set b (x, y)) := by
  intro k
  have := h k
  simp only [List.getD_eq_getElem?_getD, List.getElem?_set] at *
  by_cases hk : b = k
  · rw [if_pos hk]
    by_cases hl : b < bx.length
    · rw [if_pos hl]; simp; omega
    · rw [if_neg hl]; subst hk; simp at this ⊢; omega
  · rw [if_neg hk]; omega

/-! ### What a call of the reference's search answers: the first way in lexicographic order, as the program's search. -/
theorem SM.start {N bs ga gl gc : Nat} {A : Option Addr} {c : Nat} {ms : List Int} {bins each most free : Int} {w : World} {bx : List (Int × Int)} {av : List Int}
  (h : SM N bs ga gl gc A c ms bins each most free w bx av) (used : Int) :
   Calls Try.prog 68 #[.pointer (some ⟨bs,0,none⟩), .int .i64 ms.length, .int .i64 used] w fun e w' => e = .returned (.bool true) ∧ w' = w := by
  have hm := h.s.at_ (i := 0) rfl
  clear h
  go_enter Try.func68, Try.ntmps68
  go_wp2_with fail
  go_ret
  exact ⟨rfl, rfl⟩
theorem SM.none_ {N bs ga gl gc : Nat} {A : Option Addr} {c : Nat} {ms : List Int} {bins each most free : Int} {w : World} {bx : List (Int × Int)} {av : List Int}
  (h : SM N bs ga gl gc A c ms bins each most free w bx av) (i used : Int) (hi : i < ms.length) (hf : free < 0) :
   Calls Try.prog 68 #[.pointer (some ⟨bs,0,none⟩), .int .i64 i, .int .i64 used] w fun e w' => e = .returned (.bool false) ∧ w' = w := by
  have hm := h.s.at_ (i := 0) rfl
  have hm7 := h.s.at_ (i := 7) rfl
  clear h
  go_enter Try.func68, Try.ntmps68
  go_wp2_with fail
  go_ret
  exact ⟨rfl, rfl⟩

theorem RInv.back {N bs ga gl gc : Nat} {A : Option Addr} {c : Nat} {ms : List Int} {bins each most free : Int} {w wc : World} {bx : List (Int × Int)} {av av1 av5 : List Int} {m : Int} {rest : List Int} {i used b q1 q2 x3 : Int} {k3 : Nat}
    (hb0 : 0 ≤ b) (hbl : b.toNat < bx.length) (hi0 : 0 ≤ i) (hil : i.toNat < av1.length) (hk6 : Kp (SS ga gl gc) w wc) (n5 : N ≤ wc.heap.size)
    (hp5 : SM N bs ga gl gc A c ms bins each most free wc (bx.set b.toNat (q1 + m, q2 + 1)) av5) (hg5 : av5.take (i + 1).toNat = (av1.set i.toNat b).take (i + 1).toNat) (hg1 : (av1.set i.toNat b).take (i + 1).toNat = av.take i.toNat ++ [b])
    (hg : av1.take i.toNat = av.take i.toNat) (hno : ∀ k : Nat, (k : Int) < b → try_ most each bins m rest used bx k = none)
    (ht : try_ most each bins m rest used bx b.toNat = (dfs most each bins rest (max used (b + 1)) (bx.set b.toNat (q1 + m, q2 + 1))).map (b :: ·))
    (hd : dfs most each bins rest (max used (b + 1)) (bx.set b.toNat (q1 + m, q2 + 1)) = none) (hx3 : x3 = q1) (hq1 : q1 = (bx.getD b.toNat (0, 0)).1) (hq2 : q2 = (bx.getD b.toNat (0, 0)).2) :
    RInv N bs ga gl gc A c ms bins each most free m rest i used bx av w (b + 1) (((wc.setCell ⟨gl, b.toNat, none⟩ (.int .i64 x3)).drewN k3).setCell ⟨gc, b.toNat, none⟩ (.int .i64 q2)) := by
  subst hx3
  refine ⟨?_, ⟨av5, ?_, ?_⟩, fun k hk => ?_⟩
  · exact ((hk6.setCell (p := ⟨gl, b.toNat, none⟩) (fun _ => .inr (.inl rfl)) _).drewN k3).setCell (p := ⟨gc, b.toNat, none⟩) (fun _ => .inr (.inr rfl)) _
  · have := hp5.setL n5 b.toNat x3 q2 k3 0
    rw [World.drewN_zero, List.set_set] at this
    have e2 : bx.set b.toNat (x3, q2) = bx := by
      have := set_back bx b.toNat (x3, q2) hbl
      rw [List.set_set, ← hq1, ← hq2] at this
      exact this
    rw [e2] at this
    exact this
  · have h5 := congrArg (List.take i.toNat) hg5
    rw [List.take_take, hg1, show min i.toNat (i + 1).toNat = i.toNat by omega] at h5
    rw [h5, List.take_append_of_le_length (by rw [← hg]; simp; omega), List.take_take, Nat.min_self]
  · by_cases hkb : (k : Int) < b
    · exact hno k hkb
    · have : k = b.toNat := by omega
      subst this
      rw [ht, hd]; rfl

set_option maxHeartbeats 4000000 in
set_option maxRecDepth 100000 in
theorem rfits_round {N bs ga gl gc : Nat} {A : Option Addr} {c : Nat} {ms : List Int} {bins each most free : Int} {w : World} {bx : List (Int × Int)} {av : List Int}
  (h : SM N bs ga gl gc A c ms bins each most free w bx av) (hN : N ≤ w.heap.size) (i used : Int) (hn : i < ms.length) (hi0 : 0 ≤ i)
  (h0 : 0 ≤ used) (h1 : used ≤ 11) (hui : used ≤ i) (hbx : OKe most each bx) (hm0 : 0 ≤ rd ms i ∧ rd ms i ≤ 1073741824) (hmo : 0 ≤ most ∧ most ≤ 12884901888) (he : 0 ≤ each ∧ each ≤ 12) (hi1 : i ≤ 100) (hfr : 0 ≤ free)
  (rest : List Int)
  (ih : ∀ (used : Int) (w : World) (bx : List (Int × Int)) (av : List Int), SM N bs ga gl gc A c ms bins each most free w bx av → N ≤ w.heap.size → OKe most each bx → 0 ≤ used → used ≤ 12 → used ≤ i + 1 →
   Calls Try.prog 68 #[.pointer (some ⟨bs,0,none⟩), .int .i64 (i + 1), .int .i64 used] w
    (RPost N bs ga gl gc A c ms bins each most free rest (i + 1) used bx av w)) :
   Calls Try.prog 68 #[.pointer (some ⟨bs,0,none⟩), .int .i64 i, .int .i64 used] w
    (RPost N bs ga gl gc A c ms bins each most free (rd ms i :: rest) i used bx av w) := by
  have hie : (i == (ms.length:Int)) = false := by simp; omega
  have HN := Aside0.mk hn
  have hm := h.s.at_ (i := 0) rfl
  have hm7 := h.s.at_ (i := 7) rfl
  have H := Aside0.mk h; clear h
  have Hbx := Aside0.mk hbx; clear hbx
  have IH := Aside0.mk ih; clear ih
  obtain ⟨m, hmm⟩ : ∃ z, z = rd ms i := ⟨_, rfl⟩
  rw [← hmm] at hm0 ⊢
  have Hmm := Aside0.mk hmm; clear hmm
  go_enter Try.func68, Try.ntmps68
  go_wp2_with fail
  go_loopw [7] (fun v wr => ∃ b : Int, v = .int .i64 b ∧ 0 ≤ b ∧ b ≤ max 0 (min (used + 1) bins) ∧ RInv N bs ga gl gc A c ms bins each most free m rest i used bx av w b wr) (fun v _ => (20 - intOf v).toNat)
  case atStart => exact ⟨0, rfl, by omega, by omega, Kp.refl _ _, ⟨_, H.out, rfl⟩, fun k hk => by omega⟩
  case round =>
    obtain ⟨b, rfl, hb0, hbm, hk, ⟨av1, hp, hgt⟩, hno⟩ := hrel
    clear hm hm7
    have HG := Aside0.mk hgt; clear hgt
    have HNO := Aside0.mk hno; clear hno
    have HK := Aside0.mk hk; clear hk
    have f1 := hp.s.at_ (i := 1) rfl
    have hNr : N ≤ wr.heap.size := by have := HK.out.size; omega
    by_cases hlt : b < min (used + 1) bins
    · have hlt1 : b ≤ used := by omega
      have hlt2 : b < bins := by omega
      obtain ⟨ad, e1, g3⟩ := Kd.at_int hp.r i hi0 HN.out
      have hbl : b.toNat < bx.length := by have := hp.bl; omega
      have hbl2 : b < bx.length := by omega
      have f0 := hp.s.at_ (i := 0) rfl
      have f2 := hp.s.at_ (i := 2) rfl
      have f3 := hp.s.at_ (i := 3) rfl
      have f4 := hp.s.at_ (i := 4) rfl
      have f5 := hp.s.at_ (i := 5) rfl
      have f6 := hp.s.at_ (i := 6) rfl
      have g4 := hp.l.at_ (map_fst_get bx hbl)
      have g5 := hp.k.at_ (map_snd_get bx hbl)
      subst e1
      have hn' := HN.out
      obtain ⟨q1, hq1⟩ : ∃ z, z = (bx.getD b.toNat (0,0)).1 := ⟨_, rfl⟩
      obtain ⟨q2, hq2⟩ : ∃ z, z = (bx.getD b.toNat (0,0)).2 := ⟨_, rfl⟩
      have qb := Hbx.out b.toNat
      rw [← hq1, ← hq2] at qb; rw [← hq1] at g4; rw [← hq2] at g5; rw [← Hmm.out] at g3
      have Hq1 := Aside0.mk hq1; clear hq1
      have Hq2 := Aside0.mk hq2; clear hq2
      have HP := Aside0.mk hp; clear hp
      go_upto_region 8 with fail
      go_cut [67] from 21 to 135 (fun a w1 => a = .bool (decide (most < q1 + m) || decide (each ≤ q2)) ∧ Aside0 (SM N bs ga gl gc (some ad) c ms bins each most free w1 bx av1) ∧ Aside0 (Kp (SS ga gl gc) w w1) ∧ N ≤ w1.heap.size)
      case first =>
        by_cases hc : most < q1 + m
        · have hd : decide (most < q1 + m) = true := by simpa using hc
          go_quiet (fail)
          go_wp2_with fail
          go_meet
          case rel => exact ⟨by simp [hd], ⟨HP.out.drewN _⟩, ⟨HK.out.drewN _⟩, hNr⟩
        · have hd : decide (most < q1 + m) = false := by simpa using hc
          go_quiet (fail)
          go_wp2_with fail
          go_meet
          case rel => exact ⟨by simp [hd], ⟨HP.out.drewN _⟩, ⟨HK.out.drewN _⟩, hNr⟩
      case rest =>
      clear g3 g4 g5 f0 f1 f2 f3 f4 f5 f6 HP HK hNr
      obtain ⟨rfl, HP, HK, hNr⟩ := hcut
      by_cases hc : (decide (most < q1 + m) || decide (each ≤ q2)) = true
      · rw [hc]
        go_wp2_with fail
        go_roundw
        case rel =>
          refine ⟨b + 1, by go_num, by omega, by omega, HK.out, ⟨av1, HP.out, HG.out⟩, fun k hk => ?_⟩
          by_cases hkb : (k : Int) < b
          · exact HNO.out k hkb
          · have : k = b.toNat := by omega
            subst this
            unfold try_
            have h9 := Hbx.out b.toNat
            rw [if_pos (by rw [← Hq1.out, ← Hq2.out]; simp at hc; omega)]
        case measure => simp [intOf]; omega
      · have hd : (decide (most < q1 + m) || decide (each ≤ q2)) = false := by simpa using hc
        rw [hd]
        have hd1 : q1 + m ≤ most := by simp at hd; omega
        have hd2 : q2 < each := by simp at hd; omega
        clear hd hc
        have hil : i.toNat < av1.length := by rw [HP.out.al]; have := HN.out; omega
        have f4 := HP.out.s.at_ (i := 4) rfl
        have a1 := HP.out.a.at_ (ints_get av1 hil)
        have a2 := HP.out.a.free i.toNat
        go_upto_region 10 with fail
        have p2 := (HP.out.setA hNr i.toNat b 0)
        have k2 := HK.out.setCell (p := ⟨ga, i.toNat, none⟩) (fun _ => .inl rfl) (.int .i64 b)
        have n2 : N ≤ (wc.setCell ⟨ga, i.toNat, none⟩ (.int .i64 b)).heap.size := by simpa using hNr
        obtain ⟨w2, hw2⟩ : ∃ z, z = wc.setCell ⟨ga, i.toNat, none⟩ (.int .i64 b) := ⟨_, rfl⟩
        rw [← hw2] at k2 n2 ⊢
        rw [World.drewN_zero, ← hw2] at p2
        have g1l : (av1.set i.toNat b).take (i + 1).toNat = av.take i.toNat ++ [b] := by
          rw [← HG.out, show (i + 1).toNat = i.toNat + 1 by omega, List.take_succ_eq_append_getElem (by simpa using hil)]
          simp [List.take_set_of_le]
        have HG1 := Aside0.mk g1l; clear g1l
        clear hw2 f4 a1 a2 HP HK hNr wc
        have HP2 := Aside0.mk p2; clear p2
        have HK2 := Aside0.mk k2; clear k2
        have f0 := HP2.out.s.at_ (i := 0) rfl
        have f5 := HP2.out.s.at_ (i := 5) rfl
        have f6 := HP2.out.s.at_ (i := 6) rfl
        obtain ⟨ad', e1, g3⟩ := Kd.at_int HP2.out.r i hi0 HN.out
        cases e1
        rw [← Hmm.out] at g3
        have g4 := HP2.out.l.at_ (map_fst_get bx hbl)
        have g5 := HP2.out.k.at_ (map_snd_get bx hbl)
        rw [← Hq1.out] at g4; rw [← Hq2.out] at g5
        have r4 := HP2.out.l.free b.toNat
        have r5 := HP2.out.k.free b.toNat
        go_cut [67] from 21 to 135 (fun _ w3 => ∃ k, w3 = (w2.setCell ⟨gl, b.toNat, none⟩ (.int .i64 (q1 + m))).drewN k)
        case first =>
          go_region
          go_wp2_with fail
          go_meet
          case rel => exact ⟨1, rfl⟩
        case rest =>
        obtain ⟨k3, rfl⟩ := hcut
        have hne : gl ≠ gc := HP2.out.d3
        have hnb : bs ≠ gl := HP2.out.s.ne_of_type HP2.out.l (by decide)
        go_upto_region 12 with fail
        have p4 := HP2.out.setL n2 b.toNat (q1 + m) (q2 + 1) k3 0
        have k4 : Kp (SS ga gl gc) w (((w2.setCell ⟨gl, b.toNat, none⟩ (.int .i64 (q1 + m))).drewN k3).setCell ⟨gc, b.toNat, none⟩ (.int .i64 (q2 + 1))) :=
          ((HK2.out.setCell (fun _ => .inr (.inl rfl)) _).drewN k3).setCell (fun _ => .inr (.inr rfl)) _
        have n4 : N ≤ (((w2.setCell ⟨gl, b.toNat, none⟩ (.int .i64 (q1 + m))).drewN k3).setCell ⟨gc, b.toNat, none⟩ (.int .i64 (q2 + 1))).heap.size := by simpa using n2
        rw [World.drewN_zero] at p4
        obtain ⟨w4, hw4⟩ : ∃ z, z = ((w2.setCell ⟨gl, b.toNat, none⟩ (.int .i64 (q1 + m))).drewN k3).setCell ⟨gc, b.toNat, none⟩ (.int .i64 (q2 + 1)) := ⟨_, rfl⟩
        rw [← hw4] at p4 k4 n4
        first | rw [← hw4] | (simp only [World.setCell_drewN] at hw4; rw [← hw4])
        clear hw4 f0 f5 f6 g3 g4 g5 r4 r5 HP2 HK2 n2 w2
        have HP4 := Aside0.mk p4; clear p4
        have HK4 := Aside0.mk k4; clear k4
        have ob : OKe most each (bx.set b.toNat (q1 + m, q2 + 1)) := Hbx.out.set b.toNat (by omega) (by omega)
        have OB := Aside0.mk ob; clear ob
        go_upto_if 103 with fail
        go_cut [8] from 21 to 135 (fun a w5 => a = .int .i64 (max used (b + 1)) ∧ w4 = w5)
        case first =>
          by_cases hbu : b = used
          · subst hbu
            go_wp2_with fail
            go_meet
            case rel => exact ⟨by rw [show max b (b + 1) = b + 1 by omega], rfl⟩
          · have hbe : (b == used) = false := by simp [hbu]
            go_wp2_with fail
            go_meet
            case rel => exact ⟨by rw [show max used (b + 1) = used by omega], rfl⟩
        case rest =>
        obtain ⟨rfl, rfl⟩ := hcut
        go_upto_region 15 with fail
        go_cut [110] from 21 to 135 (fun a w5 => ∃ r, a = .bool r ∧ Aside0 (RRes N bs ga gl gc (some ad) c ms bins each most free rest (i + 1) (max used (b + 1)) (bx.set b.toNat (q1 + m, q2 + 1)) (av1.set i.toNat b) w4 r w5))
        case first =>
          go_wp2_with ((with_reducible refine (IH.out (max used (b + 1)) w4 _ _ HP4.out n4 OB.out (by omega) (by omega) (by omega)).mono ?_); rintro e5 w5 ⟨r5, rfl, hpost5⟩)
          go_meet
          case rel => exact ⟨r5, rfl, ⟨hpost5⟩⟩
        case rest =>
        obtain ⟨r5, rfl, ⟨hk5, hr5⟩⟩ := hcut
        have hk6 := HK4.out.step hk5
        have n5 : N ≤ wc.heap.size := by have := hk5.size; omega
        have HK6 := Aside0.mk hk6; clear hk6 hk5 HK4 HP4 n4 w4
        have htry : try_ most each bins m rest used bx b.toNat = (dfs most each bins rest (max used (b + 1)) (bx.set b.toNat (q1 + m, q2 + 1))).map (b :: ·) := by
          unfold try_
          rw [← Hq1.out, ← Hq2.out, if_neg (by omega)]
          rw [show ((b.toNat : Nat) : Int) = b by omega]
        have HT := Aside0.mk htry; clear htry
        cases hd5 : dfs most each bins rest (max used (b + 1)) (bx.set b.toNat (q1 + m, q2 + 1)) with
        | some l5 =>
          simp only [hd5] at hr5
          obtain ⟨rfl, bx1, hp5⟩ := hr5
          have hfin : dfs most each bins (m :: rest) used bx = some (b :: l5) := by
            rw [dfs_cons]
            refine findSome_hit _ (b := b.toNat) (by omega) (fun a ha => HNO.out a (by omega)) ?_
            rw [HT.out, hd5]; rfl
          have HF := Aside0.mk hfin; clear hfin hd5
          have HP5 := Aside0.mk hp5; clear hp5
          go_wp2_with fail
          go_ret
          refine ⟨true, rfl, HK6.out, ?_⟩
          rw [HF.out]
          refine ⟨rfl, bx1, ?_⟩
          have := HP5.out
          rw [HG1.out] at this
          simpa using this
        | none =>
          simp only [hd5] at hr5
          obtain ⟨rfl, av5, hp5, hg5⟩ := hr5
          have HD5 := Aside0.mk hd5; clear hd5
          have HG5 := Aside0.mk hg5; clear hg5
          have HP5 := Aside0.mk hp5; clear hp5
          have hbl' : b.toNat < (bx.set b.toNat (q1 + m, q2 + 1)).length := by simpa using hbl
          have hbl2' : b < (bx.set b.toNat (q1 + m, q2 + 1)).length := by simpa using hbl2
          have f0 := HP5.out.s.at_ (i := 0) rfl
          have f5 := HP5.out.s.at_ (i := 5) rfl
          have f6 := HP5.out.s.at_ (i := 6) rfl
          obtain ⟨ad', e1, g3⟩ := Kd.at_int HP5.out.r i hi0 HN.out
          cases e1
          rw [← Hmm.out] at g3
          have ebx : (bx.set b.toNat (q1 + m, q2 + 1)).getD b.toNat (0, 0) = (q1 + m, q2 + 1) := by
            rw [List.getD_eq_getElem?_getD, List.getElem?_set_self hbl]; rfl
          have g4 := HP5.out.l.at_ (map_fst_get _ hbl')
          have g5 := HP5.out.k.at_ (map_snd_get _ hbl')
          rw [ebx] at g4 g5
          dsimp only at g4 g5
          clear ebx
          have r4 := HP5.out.l.free b.toNat
          have r5 := HP5.out.k.free b.toNat
          have hne : gl ≠ gc := HP5.out.d3
          have hnb : bs ≠ gl := HP5.out.s.ne_of_type HP5.out.l (by decide)
          go_upto_region 17 with fail
          go_cut [67] from 21 to 135 (fun _ w3 => ∃ k x, x = q1 ∧ w3 = (wc.setCell ⟨gl, b.toNat, none⟩ (.int .i64 x)).drewN k)
          case first =>
            go_region
            go_wp2_with fail
            go_meet
            case rel => exact ⟨1, q1, rfl, rfl⟩
          case rest =>
          obtain ⟨k3, x3, hx3, rfl⟩ := hcut
          have HX3 := Aside0.mk hx3; clear hx3
          go_wp2_with fail
          go_roundw
          case rel => exact ⟨b + 1, by go_num, by omega, by omega, RInv.back hb0 hbl hi0 hil HK6.out n5 HP5.out HG5.out HG1.out HG.out HNO.out HT.out HD5.out HX3.out Hq1.out Hq2.out⟩
          case measure => simp [intOf]; omega
    · have hfin : dfs most each bins (m :: rest) used bx = none := by
        rw [dfs_cons]
        exact findSome_miss _ (fun a ha => HNO.out a (by omega))
      have HF := Aside0.mk hfin; clear hfin
      have HP := Aside0.mk hp; clear hp
      have f1' := f1
      by_cases hb1 : b ≤ used
      · have hb2 : bins ≤ b := by omega
        go_wp2_with fail
        go_ret
        refine ⟨false, rfl, HK.out, ?_⟩
        rw [HF.out]
        exact ⟨rfl, av1, HP.out, HG.out⟩
      · go_wp2_with fail
        go_ret
        refine ⟨false, rfl, HK.out, ?_⟩
        rw [HF.out]
        exact ⟨rfl, av1, HP.out, HG.out⟩

/-! ### The reference's search, from any thing on. -/
/-- The search: whatever is still to be put. -/
theorem rfits_any {N bs ga gl gc : Nat} {A : Option Addr} {c : Nat} {ms : List Int} {bins each most free : Int} (hml : ms.length ≤ 12) (hmo : 0 ≤ most ∧ most ≤ 12884901888) (he : 0 ≤ each ∧ each ≤ 12) (hms : ∀ i, 0 ≤ rd ms i ∧ rd ms i ≤ 1073741824) (hfr : 0 ≤ free) :
    ∀ (n : Nat) (i used : Int) (w : World) (bx : List (Int × Int)) (av : List Int), n = ms.length - i.toNat → 0 ≤ i → i ≤ ms.length → SM N bs ga gl gc A c ms bins each most free w bx av → N ≤ w.heap.size → OKe most each bx → 0 ≤ used → used ≤ i →
    Calls Try.prog 68 #[.pointer (some ⟨bs,0,none⟩), .int .i64 i, .int .i64 used] w
    (RPost N bs ga gl gc A c ms bins each most free (ms.drop i.toNat) i used bx av w) := by
  intro n
  induction n with
  | zero =>
    intro i used w bx av hn h0 h1 hp hN hb hu0 hu1
    have e : i = ms.length := by omega
    subst e
    refine (hp.start used).mono ?_
    rintro e w' ⟨rfl, rfl⟩
    refine ⟨true, rfl, Kp.refl _ _, ?_⟩
    simp only [Int.toNat_natCast, List.drop_length, dfs]
    refine ⟨trivial, bx, ?_⟩
    rw [← hp.al]
    simpa using hp
  | succ n ih =>
    intro i used w bx av hn h0 h1 hp hN hb hu0 hu1
    rw [drop_rd ms i h0 (by omega)]
    exact rfits_round hp hN i used (by omega) h0 hu0 (by omega) hu1 hb (hms i) hmo he (by omega) hfr _ (fun used w bx av hp hN hb h0 h1 hu => ih (i + 1) used w bx av (by omega) (by omega) (by omega) hp hN hb h0 hu)

end Go.Proofs.Ytnoocdobldchoaa
