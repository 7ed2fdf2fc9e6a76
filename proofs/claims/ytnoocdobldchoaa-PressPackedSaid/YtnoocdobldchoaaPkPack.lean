/- What the program's packing answers. -/
import Derived.Test.YtnoocdobldchoaaPkFits
import Derived.Test.YtnoocdobldchoaaPkRef2
import Derived.Laws.EntriesVeiled
namespace Go.Proofs.Ytnoocdobldchoaa
open Go.RowKit Go.Proofs.YtnoocdobldchoaaW.PrintWords Go.Proofs.YtnoocdobldchoaaW.PrintMore Go.Proofs.YtnoocdobldchoaaW.PrintLast

def no12 : List (Int × Int) := List.replicate 12 (0, 0)
theorem no12_get (k : Nat) : no12.getD k (0, 0) = (0, 0) := by
  unfold no12
  rw [List.getD_eq_getElem?_getD, List.getElem?_replicate]
  split <;> rfl

def PackPost (ms : List Int) (most each : Int) (w : World) (e : Ending) (w' : World) : Prop :=
  Below w.heap.size w w' ∧
  if thingsE ms most each = 0 then ∃ (g n : Nat) (l : List Int), boundF ms most ≤ n ∧ (∀ k : Nat, boundF ms most ≤ k → k < n → dfs most each k ms 0 no12 = none) ∧ dfs most each n ms 0 no12 = some l ∧
    e = .returned (.tuple #[.slice (some ⟨g, 0, none⟩) ms.length ms.length, .int .i64 n, .int .i64 0]) ∧ Blk w' g (ints l) 3 ∧ l.length = ms.length
  else e = .returned (.tuple #[.slice none 0 0, .int .i64 0, .int .i64 (thingsE ms most each)])

theorem dfs_length (most each limit : Int) : ∀ (ms : List Int) (used : Int) (bx : List (Int × Int)) (l : List Int), dfs most each limit ms used bx = some l → l.length = ms.length := by
  intro ms
  induction ms with
  | nil => intro used bx l h; simp [dfs] at h; subst h; rfl
  | cons m ms ih =>
    intro used bx l h
    rw [dfs_cons] at h
    obtain ⟨b, _, hb⟩ := List.exists_of_findSome?_eq_some h
    unfold try_ at hb
    split at hb
    · exact absurd hb (by simp)
    · obtain ⟨l', h1, rfl⟩ := Option.map_eq_some_iff.1 hb
      simp [ih _ _ _ h1]


theorem made_ints (n : Nat) : madeCells #[.int .i64 0] n = (ints (List.replicate n 0)).toArray := by
  apply Array.toList_inj.1
  rw [toList_madeCells_one]
  simp [ints]

/-- The search's memory, as it is laid. -/
theorem pm_made (w5 : World) (bm bmo be : Nat) (A : Option Addr) (c : Nat) (ms : List Int) (most each : Int) (h1 : Blk w5 bm [.slice A ms.length c] 22) (h2 : Blk w5 bmo [.int .i64 most] 3) (h3 : Blk w5 be [.int .i64 each] 3) (hr : (Kd.int .i64).C w5 A ms.length ms) {N : Nat} (ra : 0 < ms.length → ∀ ad, A = some ad → ad.block < N) (hN : N ≤ w5.heap.size) :
    PM N bm w5.heap.size bmo be (w5.heap.size + 1 + 1) (w5.heap.size + 1 + 1 + 1) (w5.heap.size + 1) A c ms most each
      ((((w5.alloc (.cells #[.int .i64 0, .int .i64 0, .int .i64 0, .int .i64 0, .int .i64 0, .int .i64 0, .int .i64 0, .int .i64 0, .int .i64 0, .int .i64 0, .int .i64 0, .int .i64 0, .int .i64 0, .int .i64 0, .int .i64 0, .int .i64 0, .int .i64 0, .int .i64 0, .int .i64 0, .int .i64 0, .int .i64 0, .int .i64 0, .int .i64 0, .int .i64 0] 59)).alloc (.cells (madeCells #[.int .i64 0] ms.length) 3)).alloc (.cells #[.slice (some ⟨w5.heap.size + 1, 0, none⟩) ms.length ms.length] 22)).alloc (.cells #[.func (.func 41) #[] #[.pointer (some ⟨bm, 0, none⟩), .pointer (some ⟨w5.heap.size, 0, none⟩), .pointer (some ⟨bmo, 0, none⟩), .pointer (some ⟨be, 0, none⟩), .pointer (some ⟨w5.heap.size + 1 + 1, 0, none⟩), .pointer (some ⟨w5.heap.size + 1 + 1 + 1, 0, none⟩)]] 60)) no12 (List.replicate ms.length 0) := by
  rw [made_ints]
  have e := h2.lt
  have e3 := h3.lt
  exact {
    m := (((h1.alloc _).alloc _).alloc _).alloc _
    r := Kd.C_below hr (below_alloc (below_alloc (below_alloc (below_alloc (Below.refl _ _) _) _) _) _)
    ra := ra
    b := (((Blk.new w5 (flat no12) 59).alloc _).alloc _).alloc _
    bl := rfl
    mo := (((h2.alloc _).alloc _).alloc _).alloc _
    e := (((h3.alloc _).alloc _).alloc _).alloc _
    g1 := by
      have := (Blk.new ((w5.alloc (.cells (flat no12).toArray 59)).alloc (.cells (ints (List.replicate ms.length 0)).toArray 3)) [.slice (some ⟨w5.heap.size + 1, 0, none⟩) ms.length ms.length] 22)
      rw [World.size_alloc, World.size_alloc] at this
      exact this.alloc _
    g2 := by
      have := (Blk.new (w5.alloc (.cells (flat no12).toArray 59)) (ints (List.replicate ms.length 0)) 3)
      rw [World.size_alloc] at this
      exact (this.alloc _).alloc _
    gl := by simp
    f := by
      have := Blk.new (((w5.alloc (.cells (flat no12).toArray 59)).alloc (.cells (ints (List.replicate ms.length 0)).toArray 3)).alloc (.cells #[.slice (some ⟨w5.heap.size + 1, 0, none⟩) ms.length ms.length] 22)) [.func (.func 41) #[] #[.pointer (some ⟨bm, 0, none⟩), .pointer (some ⟨w5.heap.size, 0, none⟩), .pointer (some ⟨bmo, 0, none⟩), .pointer (some ⟨be, 0, none⟩), .pointer (some ⟨w5.heap.size + 1 + 1, 0, none⟩), .pointer (some ⟨w5.heap.size + 1 + 1 + 1, 0, none⟩)]] 60
      rw [World.size_alloc, World.size_alloc, World.size_alloc] at this
      exact this
    nb := hN
    ng := by omega
    gmo := by omega
    ge := by omega }

set_option maxHeartbeats 4000000 in
theorem pack_any (w : World) (A : Option Addr) (c : Nat) (ms : List Int) (most each : Int) (h : (Kd.int .i64).C w A ms.length ms)
    (hex : thingsE ms most each = 0 → ∃ n0 : Nat, boundF ms most ≤ n0 ∧ n0 ≤ 100 ∧ 0 ≤ boundF ms most ∧ dfs most each n0 ms 0 no12 ≠ none) :
    Calls Try.prog 17 #[.slice A ms.length c, .int .i64 most, .int .i64 each] w (PackPost ms most each w) := by
  have hl0 := Kd.C_max h
  have ra := C_lt h
  have hb3 := below_alloc (below_alloc (below_alloc (Below.refl w.heap.size w) (.cells #[.slice A ms.length c] 22)) (.cells #[.int .i64 most] 3)) (.cells #[.int .i64 each] 3)
  have B1 := ((Blk.new w [.slice A ms.length c] 22).alloc (.cells #[.int .i64 most] 3)).alloc (.cells #[.int .i64 each] 3)
  have B2 := (Blk.new (w.alloc (.cells #[.slice A ms.length c] 22)) [.int .i64 most] 3).alloc (.cells #[.int .i64 each] 3)
  have B3 := Blk.new ((w.alloc (.cells #[.slice A ms.length c] 22)).alloc (.cells #[.int .i64 most] 3)) [.int .i64 each] 3
  rw [World.size_alloc] at B2
  rw [World.size_alloc, World.size_alloc] at B3
  have hth := things_any _ A c ms most each (Kd.C_below h hb3)
  obtain ⟨w3, hw3⟩ : ∃ z, z = ((w.alloc (.cells #[.slice A ms.length c] 22)).alloc (.cells #[.int .i64 most] 3)).alloc (.cells #[.int .i64 each] 3) := ⟨_, rfl⟩
  have hs3 : w3.heap.size = w.heap.size + 1 + 1 + 1 := by rw [hw3]; simp
  rw [← hw3] at B1 B2 B3 hb3 hth
  have HTH := Aside0.mk hth; clear hth
  have HW3 := Aside0.mk hw3; clear hw3
  have HB3 := Aside0.mk hb3; clear hb3
  have HS3 := Aside0.mk hs3; clear hs3
  have Q1 := Aside0.mk B1; clear B1
  have Q2 := Aside0.mk B2; clear B2
  have Q3 := Aside0.mk B3; clear B3
  have HEX := Aside0.mk hex; clear hex
  have HR := Aside0.mk h; clear h
  obtain ⟨e0, he0⟩ : ∃ z, z = thingsE ms most each := ⟨_, rfl⟩
  have HE := Aside0.mk he0; clear he0
  go_enter Try.func17, Try.ntmps17
  go_upto_region 2 with (first | (rw [← HW3.out]; (with_reducible refine HTH.out.mono ?_); rintro e5 w5 ⟨rfl, hb5⟩; rw [← HE.out]))
  by_cases hz : e0 = 0
  · obtain ⟨hms, ⟨hm0, hm1⟩, hec, hle⟩ := MOK.of_E (HE.out.symm.trans hz)
    obtain ⟨n0, hn0, hn1, hn2, hn3⟩ := HEX.out (HE.out.symm.trans hz)
    subst hz
    have hml := hms.1
    have HMS := Aside0.mk hms; clear hms
    have HN3 := Aside0.mk hn3; clear hn3 HEX
    have HLE := Aside0.mk hle; clear hle
    have mk1 := print_make (P := Try.prog) 22 3 .i64 8 Try.underlying22 info3 (by decide) ms.length (by omega)
    have R1 := Aside0.mk (Q1.out.below hb5)
    have R2 := Aside0.mk (Q2.out.below hb5)
    have R3 := Aside0.mk (Q3.out.below hb5)
    have HB5 := Aside0.mk (HB3.out.trans (hb5.mono (by rw [HS3.out]; omega)))
    have hs5 : w.heap.size + 2 < w5.heap.size := by have := hb5.size; rw [HS3.out] at this; omega
    clear hb5 Q1 Q2 Q3 HB3 HS3 HW3 HTH
    have l1 : w.heap.size < w5.heap.size := by omega
    have l2 : w.heap.size + 1 < w5.heap.size := by omega
    have c1 := R1.out.at_ (i := 0) rfl
    have c2 := R2.out.at_ (i := 0) rfl
    go_upto_region 8 with fail
    clear mk1
    have K := Aside0.mk (pm_made w5 w.heap.size (w.heap.size + 1) (w.heap.size + 1 + 1) A c ms most each R1.out R2.out R3.out (Kd.C_below HR.out HB5.out) ra (by omega))
    generalize hw8 : (((w5.alloc (.cells #[.int .i64 0, .int .i64 0, .int .i64 0, .int .i64 0, .int .i64 0, .int .i64 0, .int .i64 0, .int .i64 0, .int .i64 0, .int .i64 0, .int .i64 0, .int .i64 0, .int .i64 0, .int .i64 0, .int .i64 0, .int .i64 0, .int .i64 0, .int .i64 0, .int .i64 0, .int .i64 0, .int .i64 0, .int .i64 0, .int .i64 0, .int .i64 0] 59)).alloc (.cells (madeCells #[.int .i64 0] ms.length) 3)).alloc (.cells #[.slice (some ⟨w5.heap.size + 1, 0, none⟩) ms.length ms.length] 22)).alloc (.cells #[.func (.func 41) #[] #[.pointer (some ⟨w.heap.size, 0, none⟩), .pointer (some ⟨w5.heap.size, 0, none⟩), .pointer (some ⟨w.heap.size + 1, 0, none⟩), .pointer (some ⟨w.heap.size + 1 + 1, 0, none⟩), .pointer (some ⟨w5.heap.size + 1 + 1, 0, none⟩), .pointer (some ⟨w5.heap.size + 1 + 1 + 1, 0, none⟩)]] 60) = w8 at *
    have B8 : Below w.heap.size w w8 := by
      rw [← hw8]
      exact below_alloc (below_alloc (below_alloc (below_alloc HB5.out _) _) _) _
    have g8 : w5.heap.size + 1 < w8.heap.size := by rw [← hw8]; simp
    clear hw8 R1 R2 R3 c1 c2
    obtain ⟨b0, hb0⟩ : ∃ z, z = boundF ms most := ⟨_, rfl⟩
    have hbnd := Aside0.mk (bound_any w8 A c ms most K.out.r HMS.out hm0 hm1)
    rw [← hb0] at hbnd hn0 hn2
    have HB0 := Aside0.mk hb0; clear hb0
    have c1 := K.out.m.at_ (i := 0) rfl
    have c2 := K.out.mo.at_ (i := 0) rfl
    have B8' := Aside0.mk B8; clear B8
    go_cut [3, 4, 5, 10, 11, 12, 13] from 14 (fun a3 a4 a5 a10 a11 a12 a13 w9 => ∃ N bm bb bmo be bg bf g : Nat, a3 = .pointer (some ⟨bm, 0, none⟩) ∧ a4 = .pointer (some ⟨bmo, 0, none⟩) ∧ a5 = .pointer (some ⟨be, 0, none⟩) ∧ a10 = .pointer (some ⟨bb, 0, none⟩) ∧ a11 = .pointer (some ⟨bg, 0, none⟩) ∧ a12 = .pointer (some ⟨bf, 0, none⟩) ∧ a13 = .int .i64 b0 ∧ Aside0 (N = w.heap.size ∧ N < g ∧ N < bb) ∧ N ≤ w9.heap.size ∧ Aside0 (PM N bm bb bmo be bg bf g A c ms most each w9 no12 (List.replicate ms.length 0)) ∧ Aside0 (Below w.heap.size w w9))
    case first =>
      go_wp2_with (first | ((with_reducible refine hbnd.out.mono ?_); rintro e9 w9 ⟨rfl, hb9⟩))
      go_meet
      case rel =>
        refine ⟨w.heap.size, w.heap.size, w5.heap.size, w.heap.size + 1, w.heap.size + 1 + 1, w5.heap.size + 1 + 1, w5.heap.size + 1 + 1 + 1, w5.heap.size + 1, rfl, rfl, rfl, rfl, rfl, rfl, rfl, ⟨rfl, by omega, by omega⟩, by have := hb9.size; omega, ⟨?_⟩, ⟨B8'.out.trans (hb9.mono (by omega))⟩⟩
        exact K.out.kp (by omega) (S := fun _ => False) (Kp.of_below hb9) (fun _ h => h.elim) (K.out.b.below hb9) K.out.bl (K.out.g2.below hb9) K.out.gl
    case rest =>
    clear K B8' c1 c2 hs5 l1 l2 g8 HB5 hbnd w5 w8
    obtain ⟨N, bm, bb, bmo, be, bg, bf, g, rfl, rfl, rfl, rfl, rfl, rfl, rfl, HGW, n9, K9, B9⟩ := hcut
    have hrd : ∀ i : Int, 0 ≤ rd ms i ∧ rd ms i ≤ 1073741824 := by
      intro i
      by_cases hi : i.toNat < ms.length
      · have := HMS.out.2 i.toNat hi
        unfold rd; omega
      · unfold rd; rw [List.getD_eq_getElem?_getD, List.getElem?_eq_none (by omega)]; simp
    have HRD := Aside0.mk hrd; clear hrd
    have hok : OKbx most 0 no12 := fun k => by rw [no12_get]; simp; omega
    have HOK := Aside0.mk hok; clear hok
    go_wp2_with fail
    go_loopw [13] (fun v wr => ∃ n : Nat, v = .int .i64 n ∧ b0 ≤ n ∧ n ≤ n0 ∧ N ≤ wr.heap.size ∧ (∃ gv, Aside0 (PM N bm bb bmo be bg bf g A c ms most each wr no12 gv)) ∧ Aside0 (Below w.heap.size w wr) ∧ Aside0 (∀ k : Nat, b0 ≤ k → k < n → dfs most each k ms 0 no12 = none)) (fun v _ => n0 + 1 - (intOf v).toNat)
    case atStart => exact ⟨b0.toNat, by congr 1; omega, by omega, by omega, n9, ⟨_, K9⟩, B9, ⟨fun k h1 h2 => by omega⟩⟩
    case round =>
      obtain ⟨n, rfl, hnb, hnn, hNr, ⟨gv, hp⟩, hbe', hno⟩ := hrel
      have hf := hp.out.f.at_ (i := 0) rfl
      have hg1 := hp.out.g1.at_ (i := 0) rfl
      have hcall := Aside0.mk (fits_any hml ⟨by omega, hm1⟩ HRD.out (n : Int) _ 0 0 wr no12 gv rfl (by omega) (by omega) hp.out hNr HOK.out (by omega) (by omega))
      go_upto_region 10 with fail
      go_cut [32] from 28 to 34 (fun a w5 => ∃ r, a = .bool r ∧ Aside0 (FitsRes N bm bb bmo be bg bf g A c ms most each n (ms.drop (0 : Int).toNat) 0 0 no12 gv wr r w5))
      case first =>
        go_wp2_with ((with_reducible refine hcall.out.mono ?_); rintro e5 w5 ⟨r5, rfl, hpost5⟩)
        go_meet
        case rel => exact ⟨r5, rfl, ⟨hpost5⟩⟩
      case rest =>
      obtain ⟨r5, rfl, ⟨hk5, hr5⟩⟩ := hcut
      have hb5 : Below w.heap.size w wc := ((Kp.of_below hbe'.out : Kp (fun i => i = bb ∨ i = g) w wr).step hk5).below_of (fun i hi => by have := HGW.out; omega)
      have n5 : N ≤ wc.heap.size := by have := hk5.size; omega
      have HB5 := Aside0.mk hb5; clear hb5 hk5 hbe' hcall
      have hdr : ms.drop (0 : Int).toNat = ms := rfl
      rw [hdr] at hr5
      clear hdr
      cases hd5 : dfs most each n ms 0 no12 with
      | some l5 =>
        simp only [hd5] at hr5
        obtain ⟨rfl, bx1, hp5⟩ := hr5
        have hll := dfs_length _ _ _ _ _ _ _ hd5
        have HD5 := Aside0.mk hd5; clear hd5
        have hg5 := hp5.g2
        rw [show gv.take (0 : Int).toNat ++ l5 = l5 from rfl] at hg5
        have hg1 := hp5.g1.at_ (i := 0) rfl
        have HG5 := Aside0.mk hg5; clear hg5 hp5 hf hp
        have HLL := Aside0.mk hll; clear hll
        go_wp2_with fail
        refine bodyPost_ret (v := .tuple #[.slice (some ⟨g, 0, none⟩) ms.length ms.length, .int .i64 n, .int .i64 0]) (by simp [results, Try.results17, go_sem]) rfl ?_
        refine ⟨HB5.out, ?_⟩
        rw [if_pos HE.out.symm]
        exact ⟨g, n, l5, by rw [← HB0.out]; exact hnb, fun k h1 h2 => hno.out k (by rw [HB0.out]; exact h1) h2, HD5.out, rfl, HG5.out, HLL.out⟩
      | none =>
        simp only [hd5] at hr5
        obtain ⟨rfl, gv1, hp5, _⟩ := hr5
        have hlt : n < n0 := by
          rcases Nat.lt_or_ge n n0 with h1 | h1
          · exact h1
          · have : n = n0 := by omega
            subst this
            exact absurd hd5 HN3.out
        have HD5 := Aside0.mk hd5; clear hd5
        have HP5 := Aside0.mk hp5; clear hp5 hf hg1 hp
        go_wp2_with fail
        go_roundw
        case rel =>
          refine ⟨n + 1, by go_num, by omega, by omega, n5, ⟨gv1, HP5⟩, HB5, ⟨fun k h1 h2 => ?_⟩⟩
          by_cases hkn : k < n
          · exact hno.out k h1 hkn
          · have : k = n := by omega
            subst this
            exact HD5.out
        case measure => simp [intOf]; omega
  · have hzb : (e0 != 0) = true := by simp [hz]
    have HB5 := Aside0.mk (HB3.out.trans (hb5.mono (by rw [HS3.out]; omega)))
    clear hb5
    go_wp2_with fail
    refine bodyPost_ret (v := .tuple #[.slice none 0 0, .int .i64 0, .int .i64 e0]) (by simp [results, Try.results17, go_sem]) rfl ?_
    exact ⟨HB5.out, by rw [← HE.out, if_neg hz]⟩
end Go.Proofs.Ytnoocdobldchoaa
