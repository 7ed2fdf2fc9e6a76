/- What the check of an order answers, and Makespan and Critical. -/
import Derived.Test.YtnoocdobldchoaaH1
import Derived.Test.YtnoocdobldchoaaJo1
import Derived.Test.YtnoocdobldchoaaShf
import Derived.Lib.SlKeysI
import Derived.Sort.OwnSorted
import Derived.Test.YtnoocdobldchoaaD1
namespace Go.Proofs.Ytnoocdobldchoaa
open Go.RowKit Go.Proofs.YtnoocdobldchoaaW.PrintWords Go.Proofs.YtnoocdobldchoaaW.PrintMore Go.Proofs.YtnoocdobldchoaaW.PrintLast
open Go.Sort (Holds grow putRow)

def leI (x y : Int) : Bool := decide (x ≤ y)
def srtI (zs : List Int) : List Int := zs.mergeSort fun x y => decide (x ≤ y)
theorem srtI_length (zs : List Int) : (srtI zs).length = zs.length := List.length_mergeSort _
/-- The sort's answer tells a permutation of what is sorted. -/
theorem srtI_upto (zs : List Int) (n : Nat) : srtI zs = upto n ↔ zs.Perm (upto n) := by
  constructor
  · intro h
    have := List.mergeSort_perm zs (fun x y => decide (x ≤ y))
    rw [show zs.mergeSort (fun x y => decide (x ≤ y)) = srtI zs from rfl, h] at this
    exact this.symm
  · intro h
    have tr : ∀ a b c : Int, decide (a ≤ b) = true → decide (b ≤ c) = true → decide (a ≤ c) = true := fun a b c h1 h2 => by simp only [decide_eq_true_eq] at *; omega
    have hto : ∀ a b : Int, (decide (a ≤ b) || decide (b ≤ a)) = true := fun a b => by simp only [Bool.or_eq_true, decide_eq_true_eq]; omega
    refine List.Perm.eq_of_pairwise (le := fun a b => decide (a ≤ b) = true) (fun a b _ _ h1 h2 => ?_) (List.pairwise_mergeSort tr hto zs) ?_ ((List.mergeSort_perm zs _).trans h)
    · simp only [decide_eq_true_eq] at h1 h2; omega
    · unfold upto
      exact List.Pairwise.map _ (fun a b (h : a < b) => by simp only [decide_eq_true_eq]; omega) List.pairwise_lt_range

set_option maxHeartbeats 2000000 in
/-- slices.Sorted(slices.Values(zs)). -/
theorem sorted_any (Bs : Nat) (sv : Value) (zs : List Int) (hreach : zs.length ≤ 100000) (w : World) (hBs : Bs < w.heap.size) (hcs : w.cell? ⟨Bs, 0, none⟩ = some sv) (hI : SIn w.heap.size w sv zs) :
    Calls Try.prog 75 #[.func (.func 93) #[] #[.pointer (some ⟨Bs, 0, none⟩)]] w fun e w' => ∃ v, e = .returned v ∧ w'.ownsRow w.heap.size 3 1 v zs.length ((srtI zs).map (Value.int .i64)) ∧ Below w.heap.size w w' := by
  have hcol := Aside0.mk (collect_any Bs sv zs (by omega) w hBs hcs hI)
  clear hBs hcs hI
  go_enter Try.func75, Try.ntmps75
  go_upto_region 2 with ((with_reducible refine hcol.out.mono ?_); rintro e1 w1 ⟨v, rfl, hrow, hnil, hb⟩; have H1 := Aside0.mk (And.intro hrow (And.intro hnil hb)); clear hrow hnil hb)
  obtain ⟨hrow, hnil, hb⟩ := H1.out
  rcases hrow.2 with ⟨rfl, hz⟩ | ⟨gb, cap, cur, rfl, hbase, hgb, r1, r2, r3, r4⟩
  · have hss : zs = [] := List.eq_nil_of_length_eq_zero hz
    subst hss
    have hs := Aside0.mk (Try.slices_Sort_int_none none 0 w1)
    clear hrow hnil hz hb
    go_wp2_with ((with_reducible refine hs.out.mono ?_); rintro e2 w2 ⟨rfl, rfl⟩)
    go_ret
    exact ⟨_, rfl, by simpa [srtI] using H1.out.1, H1.out.2.2⟩
  · have hH : Holds encZ w1 gb 0 zs.toArray := Go.Proofs.holds_of_block_i hgb (by simpa using r4)
    have hgl : gb < w1.heap.size := (Array.getElem?_eq_some_iff.1 hgb).1
    have hs := Aside0.mk (Try.slices_Sort_int gb 0 cap zs w1 hH hgl (by omega))
    have HK := Aside0.mk (And.intro hbase (And.intro hgb (And.intro r1 (And.intro r2 r3))))
    clear hrow hnil hb hH hgl hbase hgb r1 r2 r3 r4
    go_wp2_with ((with_reducible refine hs.out.mono ?_); rintro e2 w2 ⟨rfl, nn, os, rfl⟩)
    go_ret
    obtain ⟨hbase, hgb, r1, r2, r3⟩ := HK.out
    exact ⟨_, rfl, Go.Proofs.ownsRow_sorted_i (srtI_length zs) hbase hgb r1 r2 r3, H1.out.2.2.grown (Go.Proofs.grownBy_sorted_i _) H1.out.2.2.size (fun j hj => by cases hj; exact hbase)⟩

def orderedE (ds : List (Int × Int)) (o : List Int) : Int :=
  if dumpsE ds ≠ 0 then dumpsE ds else if o.Perm (upto ds.length) then 0 else 2
theorem sIn_of_C {w : World} {A : Option Addr} (c : Nat) {zs : List Int} (h : (Kd.int .i64).C w A zs.length zs) : SIn w.heap.size w (.slice A zs.length c) zs := by
  rcases Nat.eq_zero_or_pos zs.length with h0 | h0
  · left
    exact ⟨A, c, by rw [h0], List.eq_nil_of_length_eq_zero h0⟩
  · right
    obtain ⟨ad, rfl, _⟩ := Kd.at_int h 0 (by omega) (by omega)
    refine ⟨ad, c, rfl, C_lt h h0 ad rfl, fun j hj => ?_⟩
    obtain ⟨ad2, e2, hc⟩ := Kd.at_int h (j : Int) (by omega) (by omega)
    cases e2
    rw [Int.toNat_natCast] at hc
    rw [hc]
    unfold rd
    rw [Int.toNat_natCast, List.getD_eq_getElem?_getD]
/-- Where a row of one's own lies. -/
def atHead (B : Option Addr) : Prop := ∀ ad, B = some ad → ad = ⟨ad.block, 0, none⟩
theorem sorted_C (Bs : Nat) (sv : Value) (zs : List Int) (hreach : zs.length ≤ 100000) (w : World) (hBs : Bs < w.heap.size) (hcs : w.cell? ⟨Bs, 0, none⟩ = some sv) (hI : SIn w.heap.size w sv zs) :
    Calls Try.prog 75 #[.func (.func 93) #[] #[.pointer (some ⟨Bs, 0, none⟩)]] w fun e w' => ∃ B cap, e = .returned (.slice B zs.length cap) ∧ (Kd.int .i64).C w' B zs.length (srtI zs) ∧ atHead B ∧ Below w.heap.size w w' := by
  refine (sorted_any Bs sv zs hreach w hBs hcs hI).mono ?_
  rintro e w' ⟨v, rfl, hrow, hb⟩
  obtain ⟨B, cap, rfl, hC, _⟩ := own_C (n := zs.length) (xs := srtI zs) (by simpa [ints] using hrow)
  refine ⟨B, cap, rfl, hC, fun ad e => ?_, hb⟩
  rcases hrow.2 with ⟨e2, _⟩ | ⟨gb, cap2, cur, e2, _⟩
  · injection e2 with e3 _ _; rw [e] at e3; cases e3
  · injection e2 with e3 _ _; rw [e] at e3; cases e3; rfl
theorem equal_any (w : World) (xs ys : List Int) (B : Option Addr) (cap g : Nat) (hC : (Kd.int .i64).C w B xs.length xs) (hB : atHead B) (hg : Blk w g (ints ys) 3) (h1 : xs.length ≤ 100000) (h2 : ys.length ≤ 100000) :
    Calls Try.prog 77 #[.slice B xs.length cap, .slice (some ⟨g, 0, none⟩) ys.length ys.length] w fun e w' => e = .returned (.bool (decide (xs = ys))) ∧ Below w.heap.size w w' := by
  by_cases hl : xs.length = ys.length
  · rcases Nat.eq_zero_or_pos xs.length with h0 | h0
    · have hx := List.eq_nil_of_length_eq_zero h0
      have hy : ys = [] := List.eq_nil_of_length_eq_zero (by omega)
      subst hx; subst hy
      refine (Try.slices_Equal_int_empty B _ _ _ _ w (by simp)).mono ?_
      rintro e w' ⟨rfl, rfl⟩
      exact ⟨by simp, Below.refl _ _⟩
    · obtain ⟨ad, rfl, _⟩ := Kd.at_int hC 0 (by omega) (by omega)
      have hh := hB ad rfl
      generalize ad.block = gb at hh
      subst hh
      refine (Try.slices_Equal_int gb 0 xs.length cap g 0 ys.length ys.length xs ys w (Nat.le_refl _) (Nat.le_refl _) (by omega) (by omega) (fun j hj => ?_) (fun j hj => ?_)).mono ?_
      · obtain ⟨ad2, e2, hc⟩ := Kd.at_int hC (j : Int) (by omega) (by omega)
        cases e2
        rw [Int.toNat_natCast, Addr.add_lit] at hc
        rw [hc]
        unfold rd
        rw [Int.toNat_natCast]
      · rw [Nat.zero_add]
        exact hg.at_ (ints_get ys hj)
      · rintro e w' ⟨rfl, q, rfl⟩
        refine ⟨?_, bdN _ _⟩
        rw [List.take_length, List.take_length]
        congr 2
        rw [Bool.eq_iff_iff]
        simp
  · refine (Try.slices_Equal_int_lens B (some ⟨g, 0, none⟩) xs.length cap ys.length ys.length w hl).mono ?_
    rintro e w' ⟨rfl, rfl⟩
    refine ⟨?_, Below.refl _ _⟩
    rw [decide_eq_false (fun e => hl (by rw [e]))]

set_option maxHeartbeats 4000000 in
theorem ordered_any (w : World) (A B : Option Addr) (c d : Nat) (ds : List (Int × Int)) (o : List Int) (h : kP.C w A ds.length ds) (k : (Kd.int .i64).C w B o.length o) :
    Calls Try.prog 62 #[.slice A ds.length c, .slice B o.length d] w fun e w' => e = .returned (.int .i64 (orderedE ds o)) ∧ Below w.heap.size w w' := by
  have hl1 := Kd.C_max h
  have hl2 := Kd.C_max k
  have hch := checked_any w A c ds h
  obtain ⟨e0, he0⟩ : ∃ z, z = dumpsE ds := ⟨_, rfl⟩
  rw [← he0] at hch
  have HCH := Aside0.mk hch
  have HK := Aside0.mk (And.intro h k)
  have HE := Aside0.mk he0
  clear hch h k he0
  by_cases hz : e0 = 0
  rotate_left
  · have hzb : (e0 != 0) = true := by simp [hz]
    have HR : Aside0 (orderedE ds o = e0) := ⟨by unfold orderedE; rw [← HE.out, if_pos hz]⟩
    go_enter Try.func62, Try.ntmps62
    go_wp2_with ((with_reducible refine HCH.out.mono ?_); rintro e5 w5 ⟨rfl, hb5⟩; have H5 := Aside0.mk hb5; clear hb5)
    go_ret
    exact ⟨ret_int HR.out.symm, H5.out⟩
  subst hz
  have hds := (DOK.of_E HE.out.symm).1
  have HR : Aside0 (orderedE ds o = if o.Perm (upto ds.length) then 0 else 2) := ⟨by unfold orderedE; rw [← HE.out, if_neg (by simp)]⟩
  by_cases hlen : o.length = ds.length
  rotate_left
  · have hb : ((o.length : Int) != (ds.length : Int)) = true := by simp; omega
    have HR2 : Aside0 (orderedE ds o = 2) := ⟨by
      rw [HR.out, if_neg]
      intro hp
      have := hp.length_eq
      rw [upto_length] at this
      exact hlen this⟩
    go_enter Try.func62, Try.ntmps62
    go_wp2_with ((with_reducible refine HCH.out.mono ?_); rintro e5 w5 ⟨rfl, hb5⟩; have H5 := Aside0.mk hb5; clear hb5)
    go_ret
    exact ⟨ret_int HR2.out.symm, H5.out⟩
  have hb : ((o.length : Int) != (ds.length : Int)) = false := by simp; omega
  have hol : o.length ≤ 64 := by omega
  have HLEN := Aside0.mk hlen; clear hlen
  go_enter Try.func62, Try.ntmps62
  go_upto_region 6 with ((with_reducible refine HCH.out.mono ?_); rintro e5 w5 ⟨rfl, hb5⟩; have H5 := Aside0.mk hb5; clear hb5)
  have hC5 := Kd.C_below HK.out.2 H5.out
  have hv0 := values_any B o.length d w5
  have B5 := Blk.new w5 [.slice B o.length d] 22
  have hb6 := below_alloc (Below.refl w5.heap.size w5) (.cells #[.slice B o.length d] 22)
  obtain ⟨w6, hw6⟩ : ∃ z, z = w5.alloc (.cells #[.slice B o.length d] 22) := ⟨_, rfl⟩
  rw [← hw6] at hv0
  have hv := Aside0.mk hv0
  have B6 : Blk w6 w5.heap.size [.slice B o.length d] 22 := by rw [hw6]; exact B5
  have hb6' : Below w5.heap.size w5 w6 := by rw [hw6]; exact hb6
  have hs := sorted_C w5.heap.size (.slice B o.length d) o (by omega) w6 B6.lt (B6.at_ (i := 0) rfl) (sIn_of_C d (Kd.C_below hC5 hb6'))
  have HS := Aside0.mk hs
  have HW6 := Aside0.mk hw6
  have HB6 := Aside0.mk (below_step H5.out hb6')
  have hr := Aside0.mk (fun W => rising_any W ds.length (by omega))
  clear hs hw6 hb6 hb6' B5 B6 hC5 hb hv0 HW6
  go_upto_region 7 with (first | ((with_reducible refine hv.out.mono ?_); rintro e6 w6' ⟨rfl, rfl⟩) | ((with_reducible refine HS.out.mono ?_); rintro e7 w7 ⟨B7, cap7, rfl, hC7, hh7, hb7⟩; have H7 := Aside0.mk (And.intro hC7 (And.intro hh7 hb7)); clear hC7 hh7 hb7))
  clear hv HS HCH
  have heq := fun (W : World) (g : Nat) (hW : Below w7.heap.size w7 W) (hg : Blk W g (ints (upto ds.length)) 3) => equal_any W (srtI o) (upto ds.length) B7 cap7 g (by rw [srtI_length]; exact Kd.C_below H7.out.1 hW) H7.out.2.1 hg (by rw [srtI_length]; omega) (by rw [upto_length]; omega)
  simp only [srtI_length, upto_length] at heq
  have HEQ := Aside0.mk heq
  clear heq
  by_cases hp : o.Perm (upto ds.length)
  · have hd : decide (srtI o = upto ds.length) = true := decide_eq_true ((srtI_upto o ds.length).2 hp)
    have HR2 : Aside0 (orderedE ds o = 0) := ⟨by rw [HR.out, if_pos hp]⟩
    clear hp
    go_wp2_with (first | ((with_reducible refine (hr.out _).mono ?_); rintro e8 w8 ⟨g8, rfl, _, hb8, hg8⟩; have H8 := Aside0.mk (And.intro hb8 hg8); clear hb8 hg8) | ((with_reducible refine (HEQ.out _ _ H8.out.1 H8.out.2).mono ?_); rintro e9 w9 ⟨rfl, hb9⟩; have H9 := Aside0.mk hb9; clear hb9))
    go_ret
    exact ⟨ret_int HR2.out.symm, below_step (below_step (below_step HB6.out H7.out.2.2) H8.out.1) H9.out⟩
  · have hd : decide (srtI o = upto ds.length) = false := decide_eq_false (fun e => hp ((srtI_upto o ds.length).1 e))
    have HR2 : Aside0 (orderedE ds o = 2) := ⟨by rw [HR.out, if_neg hp]⟩
    clear hp
    go_wp2_with (first | ((with_reducible refine (hr.out _).mono ?_); rintro e8 w8 ⟨g8, rfl, _, hb8, hg8⟩; have H8 := Aside0.mk (And.intro hb8 hg8); clear hb8 hg8) | ((with_reducible refine (HEQ.out _ _ H8.out.1 H8.out.2).mono ?_); rintro e9 w9 ⟨rfl, hb9⟩; have H9 := Aside0.mk hb9; clear hb9))
    go_ret
    exact ⟨ret_int HR2.out.symm, below_step (below_step (below_step HB6.out H7.out.2.2) H8.out.1) H9.out⟩
theorem ordered_ok {ds : List (Int × Int)} {o : List Int} (h : orderedE ds o = 0) : dumpsE ds = 0 ∧ o.Perm (upto ds.length) := by
  unfold orderedE at h
  by_cases h1 : dumpsE ds = 0
  · rw [if_neg (by simpa using h1)] at h
    refine ⟨h1, ?_⟩
    by_cases h2 : o.Perm (upto ds.length)
    · exact h2
    · rw [if_neg h2] at h; omega
  · rw [if_pos h1] at h; exact absurd h h1
theorem perm_rng {o : List Int} {n : Nat} (h : o.Perm (upto n)) : (∀ x ∈ o, 0 ≤ x ∧ x < n) ∧ o.length = n := by
  refine ⟨fun x hx => (upto_mem n x).1 (h.mem_iff.1 hx), ?_⟩
  rw [h.length_eq, upto_length]
def makeF (ds : List (Int × Int)) (o : List Int) : Int := if orderedE ds o = 0 then spanF ds o else 0
set_option maxHeartbeats 2000000 in
theorem makespan_any (w : World) (A B : Option Addr) (c d : Nat) (ds : List (Int × Int)) (o : List Int) (h : kP.C w A ds.length ds) (k : (Kd.int .i64).C w B o.length o) :
    Calls Try.prog 34 #[.slice A ds.length c, .slice B o.length d] w fun e w' => e = .returned (.tuple #[.int .i64 (makeF ds o), .int .i64 (orderedE ds o)]) ∧ Below w.heap.size w w' := by
  have ho := ordered_any w A B c d ds o h k
  obtain ⟨e0, he0⟩ : ∃ z, z = orderedE ds o := ⟨_, rfl⟩
  rw [← he0] at ho ⊢
  have HO := Aside0.mk ho
  have HK := Aside0.mk (And.intro h k)
  have HE := Aside0.mk he0
  clear ho h k he0
  by_cases hz : e0 = 0
  · subst hz
    obtain ⟨hd, hp⟩ := ordered_ok HE.out.symm
    obtain ⟨hr, hln⟩ := perm_rng hp
    have hdk := DOK.of_E hd
    have hsp := fun W (hW : Below w.heap.size w W) => span_any W A B c d ds o (Kd.C_below HK.out.1 hW) (Kd.C_below HK.out.2 hW) hdk hr (by have := hdk.1; omega)
    obtain ⟨m, hm⟩ : ∃ z, z = spanF ds o := ⟨_, rfl⟩
    have HM : Aside0 (makeF ds o = m) := ⟨by unfold makeF; rw [← HE.out, if_pos rfl, hm]⟩
    rw [← hm] at hsp
    have HSP := Aside0.mk hsp
    clear hsp hm hdk hr hp hd hln
    go_enter Try.func34, Try.ntmps34
    go_wp2_with (first | ((with_reducible refine HO.out.mono ?_); rintro e5 w5 ⟨rfl, hb5⟩; have H5 := Aside0.mk hb5; clear hb5) | ((with_reducible refine (HSP.out _ H5.out).mono ?_); rintro e6 w6 ⟨rfl, rfl⟩))
    go_ret2
    exact ⟨by rw [HM.out]; rfl, H5.out⟩
  · have hzb : (e0 != 0) = true := by simp [hz]
    have HM : Aside0 (makeF ds o = 0) := ⟨by unfold makeF; rw [← HE.out, if_neg hz]⟩
    go_enter Try.func34, Try.ntmps34
    go_wp2_with ((with_reducible refine HO.out.mono ?_); rintro e5 w5 ⟨rfl, hb5⟩; have H5 := Aside0.mk hb5; clear hb5)
    go_ret2
    exact ⟨by rw [HM.out]; rfl, H5.out⟩
end Go.Proofs.Ytnoocdobldchoaa
