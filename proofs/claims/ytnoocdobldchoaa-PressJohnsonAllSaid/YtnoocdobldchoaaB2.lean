/- The stable sort of fewer than twenty numbers; the makespan of an order; what Sequence answers. -/
import Derived.Test.YtnoocdobldchoaaB1
import Derived.Test.YtnoocdobldchoaaA5
namespace Go.Proofs.Ytnoocdobldchoaa
open Go.RowKit Go.Proofs.YtnoocdobldchoaaW.PrintWords Go.Proofs.YtnoocdobldchoaaW.PrintMore Go.Proofs.YtnoocdobldchoaaW.PrintLast

/-! ### The stable sort of fewer than twenty numbers; the makespan of an order; what Sequence answers. -/
/-- What the stable sort of a list leaves. -/
def SortsTo (f : Nat) (cf : Int → Int → Int) (dom : Int → Prop) (k b g : Nat) (I : World → Prop) (xs : List Int) : Prop :=
  ∀ (w : World), (∀ x ∈ xs, dom x) → Blk w g (ints xs) 3 → I w → CmpC k b I cf dom g →
    Calls Try.prog f #[.slice (some ⟨g, 0, none⟩) xs.length xs.length, .func (.func k) #[] #[.pointer (some ⟨b, 0, none⟩)]] w
      fun e w' => e = .returned (.tuple #[]) ∧ Kp (fun i => i = g) w w' ∧ Blk w' g (ints (srt cf xs)) 3

theorem stable_few {k b g : Nat} {I : World → Prop} {cf : Int → Int → Int} {dom : Int → Prop} (hC : CmpC k b I cf dom g) (xs : List Int) (hx : ∀ x ∈ xs, dom x) (w : World) (hg : Blk w g (ints xs) 3) (hI : I w) (hn : xs.length < 20) :
    Calls Try.prog 71 #[.slice (some ⟨g, 0, none⟩) xs.length xs.length, .int .i64 xs.length, .func (.func k) #[] #[.pointer (some ⟨b, 0, none⟩)]] w
      fun e w' => e = .returned (.tuple #[]) ∧ Kp (fun i => i = g) w w' ∧ Blk w' g (ints (srt cf xs)) 3 := by
  have hs := isort_any hC xs hx w hg hI 0 xs.length (by omega) (by omega) xs.length xs.length (by omega) (by omega)
  rw [List.drop_zero, Nat.sub_zero, List.take_length, List.drop_length, List.take_zero, List.append_nil, List.nil_append] at hs
  rw [show ((0 : Nat) : Int) = 0 from rfl] at hs
  have HS := Aside0.mk hs; clear hs hC hx hg hI
  have hn' : (xs.length : Int) < 20 := by omega
  go_enter Try.func71, Try.ntmps71
  go_wp2_with fail
  refine wp_loop_rounds 1 ?_
  rw [rounds_succ]
  go_wp2_with ((with_reducible refine HS.out.mono ?_); rintro e5 w5 ⟨rfl, hk5, hb5⟩; have HK5 := Aside0.mk (And.intro hk5 hb5); clear hk5 hb5)
  refine wp_loop_rounds 1 ?_
  rw [rounds_succ]
  go_wp2_with fail
  go_end0
  exact ⟨rfl, HK5.out⟩
theorem sortsFew {k b g : Nat} {I : World → Prop} {cf : Int → Int → Int} {dom : Int → Prop} (xs : List Int) (hn : xs.length < 20) : SortsTo 53 cf dom k b g I xs := by
  intro w hx hg hI hC
  have HS := Aside0.mk (stable_few hC xs hx w hg hI hn)
  clear hC hx hg hI
  go_enter Try.func53, Try.ntmps53
  go_wp2_with ((with_reducible refine HS.out.mono ?_); rintro e5 w5 ⟨rfl, hk5, hb5⟩; have HK5 := Aside0.mk (And.intro hk5 hb5); clear hk5 hb5)
  go_end0
  exact ⟨rfl, HK5.out⟩

/-- One dump more: when it is pressed, when it is strapped. -/
def spStep (ds : List (Int × Int)) (s : Int × Int) (i : Int) : Int × Int := (s.1 + (rdP ds i).1, max s.2 (s.1 + (rdP ds i).1) + (rdP ds i).2)
def spanF (ds : List (Int × Int)) (order : List Int) : Int := (order.foldl (spStep ds) (0, 0)).2
def DOK (ds : List (Int × Int)) : Prop := ds.length ≤ 64 ∧ ∀ i, i < ds.length → (0 ≤ (ds.getD i (0, 0)).1 ∧ (ds.getD i (0, 0)).1 ≤ 1073741824) ∧ 0 ≤ (ds.getD i (0, 0)).2 ∧ (ds.getD i (0, 0)).2 ≤ 1073741824
theorem DOK.at_ {ds : List (Int × Int)} (h : DOK ds) (i : Int) (h0 : 0 ≤ i) (h1 : i < ds.length) : (0 ≤ (rdP ds i).1 ∧ (rdP ds i).1 ≤ 1073741824) ∧ 0 ≤ (rdP ds i).2 ∧ (rdP ds i).2 ≤ 1073741824 := h.2 i.toNat (by omega)
theorem DOK.of_E {ds : List (Int × Int)} (h : dumpsE ds = 0) : DOK ds := by
  unfold dumpsE at h
  by_cases h1 : 64 < ds.length
  · rw [if_pos h1] at h; omega
  · rw [if_neg h1] at h
    by_cases h2 : ds.any badD = true
    · rw [if_pos h2] at h; omega
    · refine ⟨by omega, fun i hi => ?_⟩
      rw [List.getD_eq_getElem?_getD, List.getElem?_eq_getElem hi]
      simp only [Bool.not_eq_true, List.any_eq_false] at h2
      have := h2 ds[i] (List.getElem_mem hi)
      unfold badD okMin at this
      simp at this ⊢
      omega

set_option maxHeartbeats 2000000 in
theorem span_any (w : World) (A B : Option Addr) (c d : Nat) (ds : List (Int × Int)) (order : List Int) (h : kP.C w A ds.length ds) (k : (Kd.int .i64).C w B order.length order) (hd : DOK ds) (ho : ∀ x ∈ order, 0 ≤ x ∧ x < ds.length) (hol : order.length ≤ 64) :
    Calls Try.prog 61 #[.slice A ds.length c, .slice B order.length d] w fun e w' => e = .returned (.int .i64 (spanF ds order)) ∧ w = w' := by
  have HA := Aside0.mk h; clear h
  have HB := Aside0.mk k; clear k
  have HD := Aside0.mk hd; clear hd
  have HO := Aside0.mk ho; clear ho
  go_enter Try.func61, Try.ntmps61
  go_wp2_with fail
  go_loop [5, 6, 11] (fun v5 v6 v => ∃ (p s i : Int), v5 = .int .i64 p ∧ v6 = .int .i64 s ∧ v = .int .i64 i ∧ 0 ≤ i ∧ i ≤ order.length ∧ 0 ≤ p ∧ p ≤ i * 1073741824 ∧ 0 ≤ s ∧ s ≤ i * 2147483648 ∧ Aside0 ((order.drop i.toNat).foldl (spStep ds) (p, s) = order.foldl (spStep ds) (0, 0))) (fun _ _ v => order.length - (intOf v).toNat)
  case atStart => exact ⟨0, 0, 0, rfl, rfl, rfl, by omega, by omega, by omega, by omega, by omega, by omega, ⟨rfl⟩⟩
  case round =>
    obtain ⟨p, s, i, rfl, rfl, rfl, h0, h1, hp0, hp1, hs0, hs1, he⟩ := hrel
    by_cases hlt : i < order.length
    · obtain ⟨ad, e1, g1⟩ := Kd.at_int HB.out i h0 hlt
      subst e1
      have he2 := he.out
      rw [dropP order 0 i h0 hlt, List.foldl_cons] at he2
      have hmem : order.getD i.toNat 0 ∈ order := by
        rw [List.getD_eq_getElem?_getD, List.getElem?_eq_getElem (show i.toNat < order.length by omega)]
        exact List.getElem_mem _
      have hj := HO.out _ hmem
      obtain ⟨j, hjj⟩ : ∃ z, z = order.getD i.toNat 0 := ⟨_, rfl⟩
      rw [← hjj] at he2 hj
      have g1' : w.cell? (ad.add i.toNat) = some (.int .i64 j) := by rw [hjj]; exact g1
      clear hjj g1 hmem he
      obtain ⟨hj0, hj1⟩ := hj
      obtain ⟨ad2, e2, g2, g3⟩ := at_P HA.out j hj0 hj1
      subst e2
      have hdk := HD.out.at_ j hj0 hj1
      unfold spStep at he2
      generalize rdP ds j = x at *
      obtain ⟨x1, x2⟩ := x
      dsimp only at g2 g3 hdk he2
      have HE := Aside0.mk he2; clear he2
      by_cases hm : s < p + x1
      · go_wp2_with fail
        go_round
        case rel =>
          have := HE.out
          rw [show max s (p + x1) = p + x1 by omega] at this
          exact ⟨p + x1, p + x1 + x2, i + 1, by go_num, by go_num, by go_num, by omega, by omega, by omega, by omega, by omega, by omega, ⟨this⟩⟩
        case measure => simp [intOf]; omega
      · go_wp2_with fail
        go_round
        case rel =>
          have := HE.out
          rw [show max s (p + x1) = s by omega] at this
          exact ⟨p + x1, s + x2, i + 1, by go_num, by go_num, by go_num, by omega, by omega, by omega, by omega, by omega, by omega, ⟨this⟩⟩
        case measure => simp [intOf]; omega
    · go_wp2_with fail
      go_ret
      have he2 := he.out
      rw [show i.toNat = order.length by omega, List.drop_length] at he2
      exact ⟨ret_int (by unfold spanF; rw [← he2]; rfl), rfl⟩

/-! ### What Sequence answers. -/
theorem enter60 (args : Array Value) (W : World) : (callFunc 60 args).run Try.prog W = .ok (.enter 60 args) W := by kernel_rfl

/-- Johnson's comparison of two numbers of dumps. -/
def jcf (ds : List (Int × Int)) (x y : Int) : Int := jcmp (rdP ds x) (rdP ds y)
def jI (A : Option Addr) (c b : Nat) (ds : List (Int × Int)) (W : World) : Prop := kP.C W A ds.length ds ∧ W.cell? ⟨b, 0, none⟩ = some (.slice A ds.length c)
theorem Cp_kp {S : Nat → Prop} {w w1 : World} {A : Option Addr} {n : Nat} {xs : List (Int × Int)} (h : kP.C w A n xs) (k : Kp S w w1) (hn : 0 < n → ∀ ad, A = some ad → ad.block < w.heap.size ∧ ¬ S ad.block) : kP.C w1 A n xs := by
  obtain ⟨h1, h2, h3⟩ := h
  refine ⟨h1, h2, fun hp => ?_⟩
  obtain ⟨ad, e, h4⟩ := h3 hp
  refine ⟨ad, e, fun j p hj => ?_⟩
  obtain ⟨c, h5, h6, h7⟩ := h4 j p hj
  refine ⟨c, h5, ?_, fun i u hi => ?_⟩
  · rw [kP_open h6]; exact kP_mk _ _
  · refine (World.cell?_of_block (w := w) ?_).trans (h7 i u hi)
    rw [add_block]
    exact k.block _ (hn hp ad e).1 (hn hp ad e).2
theorem Cp_lt {w : World} {A : Option Addr} {n : Nat} {xs : List (Int × Int)} (h : kP.C w A n xs) : 0 < n → ∀ ad, A = some ad → ad.block < w.heap.size := by
  intro hp ad e
  obtain ⟨ad2, e2, hc, _⟩ := at_P h 0 (by omega) (by omega)
  rw [e] at e2
  cases e2
  have := World.block_lt_of_cell? w _ hc
  rwa [add_block] at this
theorem jC {A : Option Addr} {c b g N : Nat} {ds : List (Int × Int)} (hA : 0 < ds.length → ∀ ad, A = some ad → ad.block < N) (hb : b < N) (hg : N ≤ g) : CmpC 60 b (fun W => N ≤ W.heap.size ∧ jI A c b ds W) (jcf ds) (fun x => 0 ≤ x ∧ x < ds.length) g where
  en := enter60
  calls := fun W x y hI hx hy => jcmp_any W A c b ds hI.2.1 hI.2.2 x y hx hy
  keep := fun W W' hI k => by
    refine ⟨Nat.le_trans hI.1 k.size, ?_, ?_⟩
    · exact Cp_kp hI.2.1 k (fun hp ad e => ⟨Nat.lt_of_lt_of_le (hA hp ad e) hI.1, fun h => by have := hA hp ad e; omega⟩)
    · exact k.cell hI.2.2 (fun h => by dsimp only at h; omega)
theorem srt_perm_mem (cf : Int → Int → Int) (l : List Int) : ∀ x, x ∈ srt cf l ↔ x ∈ l := by
  have key : ∀ (l acc : List Int) (x : Int), x ∈ l.foldl (fun acc x => insR cf x acc) acc ↔ x ∈ acc ∨ x ∈ l := by
    intro l
    induction l with
    | nil => intro acc x; simp
    | cons a l ih =>
      intro acc x
      rw [List.foldl_cons, ih, insR_mem, List.mem_cons]
      constructor
      · rintro ((h | h) | h)
        · exact .inr (.inl h)
        · exact .inl h
        · exact .inr (.inr h)
      · rintro (h | h | h)
        · exact .inl (.inr h)
        · exact .inl (.inl h)
        · exact .inr h
  intro x
  unfold srt srtR
  rw [List.mem_reverse, key]
  simp
theorem srt_length (cf : Int → Int → Int) (l : List Int) : (srt cf l).length = l.length := by
  have key : ∀ (l acc : List Int), (l.foldl (fun acc x => insR cf x acc) acc).length = acc.length + l.length := by
    intro l
    induction l with
    | nil => intro acc; simp
    | cons a l ih => intro acc; rw [List.foldl_cons, ih, insR_length]; simp; omega
  unfold srt srtR
  rw [List.length_reverse, key]; simp
theorem upto_mem (n : Nat) (x : Int) : x ∈ upto n ↔ 0 ≤ x ∧ x < n := by
  unfold upto
  rw [List.mem_map]
  constructor
  · rintro ⟨i, hi, rfl⟩
    have := List.mem_range.1 hi; omega
  · intro h
    exact ⟨x.toNat, List.mem_range.2 (by omega), by omega⟩

def SeqPost (ds : List (Int × Int)) (w : World) (e : Ending) (w' : World) : Prop :=
  Below w.heap.size w w' ∧
  if dumpsE ds = 0 then ∃ g : Nat, e = .returned (.tuple #[.slice (some ⟨g, 0, none⟩) ds.length ds.length, .int .i64 (spanF ds (srt (jcf ds) (upto ds.length))), .int .i64 0]) ∧ Blk w' g (ints (srt (jcf ds) (upto ds.length))) 3
  else e = .returned (.tuple #[.slice none 0 0, .int .i64 0, .int .i64 (dumpsE ds)])

set_option maxHeartbeats 4000000 in
theorem seq_any (w : World) (A : Option Addr) (c : Nat) (ds : List (Int × Int)) (h : kP.C w A ds.length ds)
    (hsort : ∀ b g I, dumpsE ds = 0 → SortsTo 53 (jcf ds) (fun x => 0 ≤ x ∧ x < ds.length) 60 b g I (upto ds.length)) :
    Calls Try.prog 33 #[.slice A ds.length c] w (SeqPost ds w) := by
  have hl := Kd.C_max h
  have ra := Cp_lt h
  have hb1 := below_alloc (Below.refl w.heap.size w) (.cells #[.slice A ds.length c] 48)
  have B1 := Blk.new w [.slice A ds.length c] 48
  have hch := checked_any _ A c ds (Kd.C_below h hb1)
  have hc1 := B1.at_ (i := 0) rfl
  have HR := Aside0.mk h; clear h
  have HB1 := Aside0.mk hb1; clear hb1
  have Q1 := Aside0.mk B1; clear B1
  have HCH := Aside0.mk hch; clear hch
  have HS := Aside0.mk hsort; clear hsort
  have RA := Aside0.mk ra; clear ra
  obtain ⟨e0, he0⟩ : ∃ z, z = dumpsE ds := ⟨_, rfl⟩
  have HE := Aside0.mk he0; clear he0
  go_enter Try.func33, Try.ntmps33
  go_upto_region 2 with ((with_reducible refine HCH.out.mono ?_); rintro e5 w5 ⟨rfl, hb5⟩; rw [← HE.out])
  have hbb : Below w.heap.size w w5 := HB1.out.trans (hb5.mono (by simp))
  have q1 := Q1.out.below hb5
  clear hc1 HCH Q1 HB1 hb5
  have Q1 := Aside0.mk q1; clear q1
  have HBB := Aside0.mk hbb; clear hbb
  by_cases hz : e0 = 0
  · have hdo := DOK.of_E (HE.out.symm.trans hz)
    have hE := HE.out
    subst hz
    have hdl := hdo.1
    have HDO := Aside0.mk hdo; clear hdo
    have HE2 := Aside0.mk hE; clear hE
    have hc1 := Q1.out.at_ (i := 0) rfl
    have hris := Aside0.mk (rising_any w5 ds.length (by omega))
    go_upto_region 5 with ((with_reducible refine hris.out.mono ?_); rintro e6 w6 ⟨g, rfl, hg0, hb6, hg6⟩; have HB6 := Aside0.mk (And.intro hg0 (And.intro hb6 hg6)); clear hg0 hb6 hg6)
    obtain ⟨hg0, hb6, hg6⟩ := HB6.out
    clear hc1 hris
    have q6 := Q1.out.below hb6
    have hw5 := Q1.out.lt
    have hI : (w5.heap.size ≤ w6.heap.size) ∧ jI A c w.heap.size ds w6 := ⟨hb6.size, Kd.C_below HR.out (HBB.out.trans (hb6.mono (by omega))), q6.at_ (i := 0) rfl⟩
    have hC := jC (A := A) (c := c) (b := w.heap.size) (g := g) (N := w5.heap.size) (ds := ds) (fun hp ad e => Nat.lt_of_lt_of_le (RA.out hp ad e) (by omega)) hw5 hg0
    have hcall := HS.out w.heap.size g _ HE2.out.symm w6 (fun x hx => (upto_mem _ x).1 hx) hg6 hI hC
    rw [upto_length] at hcall
    have hb7 : Below w.heap.size w w6 := HBB.out.trans (hb6.mono (by omega))
    have HB7 := Aside0.mk hb7
    have HQ6 := Aside0.mk q6; clear q6
    have HG := Aside0.mk (show w.heap.size < g by omega)
    have HC := Aside0.mk hcall; clear hcall hC hI hb7 hg6 hb6 hg0 HB6 hw5 Q1 HBB
    go_upto_region 6 with ((with_reducible refine HC.out.mono ?_); rintro e7 w7 ⟨rfl, hk7, hg7⟩; have HK7 := Aside0.mk (And.intro hk7 hg7); clear hk7 hg7)
    obtain ⟨hk7, hg7⟩ := HK7.out
    have hb8 : Below w.heap.size w w7 := ((Kp.of_below HB7.out : Kp (fun i => i = g) w w6).step hk7).below_of (fun i hi => by have := HG.out; omega)
    have q7 := HQ6.out.kp hk7 (by have := HG.out; omega)
    have hc1 := q7.at_ (i := 0) rfl
    have hol : (srt (jcf ds) (upto ds.length)).length = ds.length := by rw [srt_length, upto_length]
    have hsp := span_any w7 A (some ⟨g, 0, none⟩) c ds.length ds (srt (jcf ds) (upto ds.length)) (Kd.C_below HR.out hb8) (hg7.ints_C (by omega)) HDO.out (fun x hx => (upto_mem _ x).1 ((srt_perm_mem _ _ x).1 hx)) (by omega)
    rw [hol] at hsp
    have HSP := Aside0.mk hsp; clear hsp
    have HB8 := Aside0.mk hb8; clear hb8 q7 hk7 hg7 hol HB7 HQ6 HC
    go_wp2_with ((with_reducible refine HSP.out.mono ?_); rintro e8 w8 ⟨rfl, rfl⟩)
    refine bodyPost_ret (v := .tuple #[.slice (some ⟨g, 0, none⟩) ds.length ds.length, .int .i64 (spanF ds (srt (jcf ds) (upto ds.length))), .int .i64 0]) (by simp [results, Try.results33, go_sem]) rfl ?_
    refine ⟨HB8.out, ?_⟩
    rw [if_pos HE2.out.symm]
    exact ⟨g, rfl, HK7.out.2⟩
  · have hzb : (e0 != 0) = true := by simp [hz]
    go_wp2_with fail
    refine bodyPost_ret (v := .tuple #[.slice none 0 0, .int .i64 0, .int .i64 e0]) (by simp [results, Try.results33, go_sem]) rfl ?_
    exact ⟨HBB.out, by rw [← HE.out, if_neg hz]⟩

/-! ### The closed example of the layer comes to true. -/
theorem Blk.pairs_C {w : World} {g : Nat} {xs : List (Int × Int)} {t : TypeId} (h : Blk w g (flat xs) t) (hl : xs.length ≤ 9223372036854775807) : kP.C w (some ⟨g, 0, none⟩) xs.length xs := by
  refine ⟨rfl, hl, fun _ => ⟨_, rfl, fun j p hp => ⟨[.int .i64 p.1, .int .i64 p.2], rfl, kP_mk _ _, fun i u hi => ?_⟩⟩⟩
  have hj : j < xs.length := (List.getElem?_eq_some_iff.1 hp).1
  rw [add_plain]
  show w.cell? ⟨g, j * 2 + i, none⟩ = _
  have e : xs.getD j (0, 0) = p := by rw [List.getD_eq_getElem?_getD, hp]; rfl
  match i, hi with
  | 0, hi =>
    simp only [List.getElem?_cons_zero, Option.some.injEq] at hi
    subst hi
    have := h.at_ (flat_get0 xs j hj)
    rwa [e] at this
  | 1, hi =>
    simp only [List.getElem?_cons_succ, List.getElem?_cons_zero, Option.some.injEq] at hi
    subst hi
    have := h.at_ (flat_get1 xs j hj)
    rwa [e] at this
  | i + 2, hi => simp at hi

def D3 : List (Int × Int) := [(3, 2), (1, 4), (2, 2)]
def M5 : List Int := [6, 4, 4, 3, 3]
theorem alive_seq (W : World) (g0 : Nat) (hb : Blk W g0 (flat D3) 55) : Calls Try.prog 33 #[.slice (some ⟨g0, 0, none⟩) 3 3] W fun e w' => ∃ g : Nat, e = .returned (.tuple #[.slice (some ⟨g, 0, none⟩) 3 3, .int .i64 9, .int .i64 0]) ∧ Below W.heap.size W w' ∧ Blk w' g (ints [1, 2, 0]) 3 := by
  have h : Calls Try.prog 33 #[.slice (some ⟨g0, 0, none⟩) 3 3] W (SeqPost D3 W) := seq_any W (some ⟨g0, 0, none⟩) 3 D3 (hb.pairs_C (by decide)) (fun b g I _ => sortsFew _ (by decide))
  refine h.mono ?_
  rintro e w' ⟨h1, h2⟩
  have e0 : dumpsE D3 = 0 := by decide
  rw [if_pos e0] at h2
  obtain ⟨g, h3, h4⟩ := h2
  have e1 : srt (jcf D3) (upto D3.length) = [1, 2, 0] := by decide
  rw [e1] at h3 h4
  have e2 : spanF D3 [1, 2, 0] = 9 := by decide
  rw [e2] at h3
  exact ⟨g, h3, h1, h4⟩
theorem alive_pack (W : World) (g0 : Nat) (hb : Blk W g0 (ints M5) 3) : Calls Try.prog 17 #[.slice (some ⟨g0, 0, none⟩) 5 5, .int .i64 10, .int .i64 2] W fun e w' => ∃ g : Nat, e = .returned (.tuple #[.slice (some ⟨g, 0, none⟩) 5 5, .int .i64 3, .int .i64 0]) ∧ Below W.heap.size W w' ∧ Blk w' g (ints [0, 0, 1, 1, 2]) 3 := by
  have h : Calls Try.prog 17 #[.slice (some ⟨g0, 0, none⟩) 5 5, .int .i64 10, .int .i64 2] W (PackPost M5 10 2 W) := pack_any W (some ⟨g0, 0, none⟩) 5 M5 10 2 (hb.ints_C (by decide)) pack_hex
  refine h.mono ?_
  rintro e w' ⟨h1, h2⟩
  have e0 : thingsE M5 10 2 = 0 := by decide
  rw [if_pos e0] at h2
  obtain ⟨g, n, l, h3, h4, h5, h6, h7, _⟩ := h2
  have e1 : boundF M5 10 = 2 := by decide
  rw [e1] at h3 h4
  have d2 : dfs 10 2 ((2 : Nat) : Int) M5 0 no12 = none := by decide +kernel
  have d3 : dfs 10 2 ((3 : Nat) : Int) M5 0 no12 = some [0, 0, 1, 1, 2] := by decide +kernel
  have hn : n = 3 := by
    rcases Nat.lt_trichotomy n 3 with h | h | h
    · have : n = 2 := by omega
      subst this
      rw [d2] at h5; simp at h5
    · exact h
    · have := h4 3 (by omega) h
      rw [d3] at this; simp at this
  subst hn
  rw [d3] at h5
  injection h5 with h5
  subst h5
  exact ⟨g, h6, h1, h7⟩
theorem same_yes (W : World) (g g' : Nat) (xs : List Int) (h : Blk W g (ints xs) 3) (k : Blk W g' (ints xs) 3) (hl : xs.length ≤ 1000) : Calls Try.prog 19 #[.slice (some ⟨g, 0, none⟩) xs.length xs.length, .slice (some ⟨g', 0, none⟩) xs.length xs.length] W fun e w' => e = .returned (.bool true) ∧ Below W.heap.size W w' :=
  (same_any W _ _ _ _ xs xs (h.ints_C (by omega)) (k.ints_C (by omega))).mono (fun e w' ⟨h1, h2⟩ => ⟨by rw [h1]; simp, h2⟩)

set_option maxHeartbeats 4000000 in
theorem alive_any (w : World) : Calls Try.prog 15 #[] w fun e w' => e = .returned (.bool true) ∧ Below w.heap.size w w' := by
  have hs : Calls Try.prog 33 #[.slice (some ⟨w.heap.size, 0, none⟩) 3 3] (w.alloc (.cells #[.int .i64 3, .int .i64 2, .int .i64 1, .int .i64 4, .int .i64 2, .int .i64 2] 55)) fun e w' => ∃ g : Nat, e = .returned (.tuple #[.slice (some ⟨g, 0, none⟩) 3 3, .int .i64 9, .int .i64 0]) ∧ Below (w.alloc (.cells #[.int .i64 3, .int .i64 2, .int .i64 1, .int .i64 4, .int .i64 2, .int .i64 2] 55)).heap.size (w.alloc (.cells #[.int .i64 3, .int .i64 2, .int .i64 1, .int .i64 4, .int .i64 2, .int .i64 2] 55)) w' ∧ Blk w' g (ints [1, 2, 0]) 3 := alive_seq _ _ (Blk.new w (flat D3) 55)
  have hb0 := below_alloc (Below.refl w.heap.size w) (.cells #[.int .i64 3, .int .i64 2, .int .i64 1, .int .i64 4, .int .i64 2, .int .i64 2] 55)
  have HS := Aside0.mk hs; clear hs
  have HB0 := Aside0.mk hb0; clear hb0
  go_enter Try.func15, Try.ntmps15
  go_upto_region 2 with ((with_reducible refine HS.out.mono ?_); rintro e5 w5 ⟨g, rfl, hb5, hg5⟩; have H5 := Aside0.mk (And.intro hb5 hg5); clear hb5 hg5)
  obtain ⟨hb5, hg5⟩ := H5.out
  have B5 := Aside0.mk (below_step HB0.out hb5)
  have hs : Calls Try.prog 17 #[.slice (some ⟨w5.heap.size, 0, none⟩) 5 5, .int .i64 10, .int .i64 2] (w5.alloc (.cells #[.int .i64 6, .int .i64 4, .int .i64 4, .int .i64 3, .int .i64 3] 3)) fun e w' => ∃ g : Nat, e = .returned (.tuple #[.slice (some ⟨g, 0, none⟩) 5 5, .int .i64 3, .int .i64 0]) ∧ Below (w5.alloc (.cells #[.int .i64 6, .int .i64 4, .int .i64 4, .int .i64 3, .int .i64 3] 3)).heap.size (w5.alloc (.cells #[.int .i64 6, .int .i64 4, .int .i64 4, .int .i64 3, .int .i64 3] 3)) w' ∧ Blk w' g (ints [0, 0, 1, 1, 2]) 3 := alive_pack _ _ (Blk.new w5 (ints M5) 3)
  have hb6 := below_alloc B5.out (.cells #[.int .i64 6, .int .i64 4, .int .i64 4, .int .i64 3, .int .i64 3] 3)
  have g6 := hg5.alloc (.cells #[.int .i64 6, .int .i64 4, .int .i64 4, .int .i64 3, .int .i64 3] 3)
  have HB6 := Aside0.mk hb6; clear hb6
  have HG6 := Aside0.mk g6; clear g6 hb5 hg5 HS H5
  have HS := Aside0.mk hs; clear hs
  go_upto_region 3 with ((with_reducible refine HS.out.mono ?_); rintro e7 w7 ⟨g7, rfl, hb7, hg7⟩; have H7 := Aside0.mk (And.intro hb7 hg7); clear hb7 hg7)
  obtain ⟨hb7, hg7⟩ := H7.out
  have B7 := Aside0.mk (below_step HB6.out hb7)
  have G7 := Aside0.mk (HG6.out.below hb7)
  have hs8 : Calls Try.prog 19 #[.slice (some ⟨g, 0, none⟩) 3 3, .slice (some ⟨w7.heap.size, 0, none⟩) 3 3] (w7.alloc (.cells #[.int .i64 1, .int .i64 2, .int .i64 0] 3)) fun e w' => e = .returned (.bool true) ∧ Below (w7.alloc (.cells #[.int .i64 1, .int .i64 2, .int .i64 0] 3)).heap.size (w7.alloc (.cells #[.int .i64 1, .int .i64 2, .int .i64 0] 3)) w' := same_yes _ g w7.heap.size [1, 2, 0] (G7.out.alloc _) (Blk.new w7 (ints [1, 2, 0]) 3) (by decide)
  have hb8 := below_alloc B7.out (.cells #[.int .i64 1, .int .i64 2, .int .i64 0] 3)
  have g8 := hg7.alloc (.cells #[.int .i64 1, .int .i64 2, .int .i64 0] 3)
  have HB8 := Aside0.mk hb8; clear hb8
  have HG8 := Aside0.mk g8; clear g8 hb7 hg7 HS H7
  have HS8 := Aside0.mk hs8; clear hs8
  have hs9 : ∀ W : World, Blk W g7 (ints [0, 0, 1, 1, 2]) 3 → Calls Try.prog 19 #[.slice (some ⟨g7, 0, none⟩) 5 5, .slice (some ⟨W.heap.size, 0, none⟩) 5 5] (W.alloc (.cells #[.int .i64 0, .int .i64 0, .int .i64 1, .int .i64 1, .int .i64 2] 3)) fun e w' => e = .returned (.bool true) ∧ Below (W.alloc (.cells #[.int .i64 0, .int .i64 0, .int .i64 1, .int .i64 1, .int .i64 2] 3)).heap.size (W.alloc (.cells #[.int .i64 0, .int .i64 0, .int .i64 1, .int .i64 1, .int .i64 2] 3)) w' := fun W h => same_yes _ g7 W.heap.size [0, 0, 1, 1, 2] (h.alloc _) (Blk.new W (ints [0, 0, 1, 1, 2]) 3) (by decide)
  have HS9 := Aside0.mk hs9; clear hs9
  go_wp2_with (first | ((with_reducible refine HS8.out.mono ?_); rintro e9 w9 ⟨rfl, hb9⟩; have H9 := Aside0.mk (And.intro (HG8.out.below hb9) (below_step HB8.out hb9)); clear hb9) | ((with_reducible refine (HS9.out _ H9.out.1).mono ?_); rintro e10 w10 ⟨rfl, hb10⟩; have H10 := Aside0.mk (below_step (below_alloc H9.out.2 _) hb10); clear hb10))
  go_ret
  exact ⟨rfl, H10.out⟩

end Go.Proofs.Ytnoocdobldchoaa
