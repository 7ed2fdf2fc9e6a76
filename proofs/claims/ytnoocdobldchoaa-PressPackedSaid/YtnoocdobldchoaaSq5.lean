/- What Sequence answers. -/
import Derived.Test.YtnoocdobldchoaaSq4
namespace Go.Proofs.Ytnoocdobldchoaa
open Go.RowKit Go.Proofs.YtnoocdobldchoaaW.PrintWords Go.Proofs.YtnoocdobldchoaaW.PrintMore Go.Proofs.YtnoocdobldchoaaW.PrintLast

theorem enter60 (args : Array Value) (W : World) : (callFunc 60 args).run Try.prog W = .ok (.enter 60 args) W := by kernel_rfl

/-- Johnson's comparison of two numbers of dumps. -/
def jcf (ds : List (Int × Int)) (x y : Int) : Int := jcmp (rdP ds x) (rdP ds y)
def jI (A : Option Addr) (c b : Nat) (ds : List (Int × Int)) (W : World) : Prop := kP.C W A ds.length ds ∧ W.cell? ⟨b, 0, none⟩ = some (.slice A ds.length c)
theorem Cp_kp {S : Nat → Prop} {w w1 : World} {A : Option Addr} {n : Nat} {xs : List (Int × Int)} (h : kP.C w A n xs) (k : Kp S w w1) (hn : 0 < n → ∀ ad, A = some ad → ad.block < w.heap.size ∧ ¬ S ad.block) : kP.C w1 A n xs := by
  obtain ⟨h1, h2, h3⟩ := h
  refine ⟨h1, h2, fun hp => ?_⟩
  obtain ⟨ad, e, h4⟩ := h3 hp
  refine ⟨ad, e, fun j p hj => ?_⟩
  obtain ⟨c, h5, h6, h7⟩ := h4 j p hj
  refine ⟨c, h5, ?_, fun i u hi => ?_⟩
  · rw [kP_open h6]; exact kP_mk _ _
  · refine (World.cell?_of_block (w := w) ?_).trans (h7 i u hi)
    rw [add_block]
    exact k.block _ (hn hp ad e).1 (hn hp ad e).2
theorem Cp_lt {w : World} {A : Option Addr} {n : Nat} {xs : List (Int × Int)} (h : kP.C w A n xs) : 0 < n → ∀ ad, A = some ad → ad.block < w.heap.size := by
  intro hp ad e
  obtain ⟨ad2, e2, hc, _⟩ := at_P h 0 (by omega) (by omega)
  rw [e] at e2
  cases e2
  have := World.block_lt_of_cell? w _ hc
  rwa [add_block] at this
theorem jC {A : Option Addr} {c b g N : Nat} {ds : List (Int × Int)} (hA : 0 < ds.length → ∀ ad, A = some ad → ad.block < N) (hb : b < N) (hg : N ≤ g) : CmpC 60 b (fun W => N ≤ W.heap.size ∧ jI A c b ds W) (jcf ds) (fun x => 0 ≤ x ∧ x < ds.length) g where
  en := enter60
  calls := fun W x y hI hx hy => jcmp_any W A c b ds hI.2.1 hI.2.2 x y hx hy
  keep := fun W W' hI k => by
    refine ⟨Nat.le_trans hI.1 k.size, ?_, ?_⟩
    · exact Cp_kp hI.2.1 k (fun hp ad e => ⟨Nat.lt_of_lt_of_le (hA hp ad e) hI.1, fun h => by have := hA hp ad e; omega⟩)
    · exact k.cell hI.2.2 (fun h => by dsimp only at h; omega)
theorem srt_perm_mem (cf : Int → Int → Int) (l : List Int) : ∀ x, x ∈ srt cf l ↔ x ∈ l := by
  have key : ∀ (l acc : List Int) (x : Int), x ∈ l.foldl (fun acc x => insR cf x acc) acc ↔ x ∈ acc ∨ x ∈ l := by
    intro l
    induction l with
    | nil => intro acc x; simp
    | cons a l ih =>
      intro acc x
      rw [List.foldl_cons, ih, insR_mem, List.mem_cons]
      constructor
      · rintro ((h | h) | h)
        · exact .inr (.inl h)
        · exact .inl h
        · exact .inr (.inr h)
      · rintro (h | h | h)
        · exact .inl (.inr h)
        · exact .inl (.inl h)
        · exact .inr h
  intro x
  unfold srt srtR
  rw [List.mem_reverse, key]
  simp
theorem srt_length (cf : Int → Int → Int) (l : List Int) : (srt cf l).length = l.length := by
  have key : ∀ (l acc : List Int), (l.foldl (fun acc x => insR cf x acc) acc).length = acc.length + l.length := by
    intro l
    induction l with
    | nil => intro acc; simp
    | cons a l ih => intro acc; rw [List.foldl_cons, ih, insR_length]; simp; omega
  unfold srt srtR
  rw [List.length_reverse, key]; simp
theorem upto_mem (n : Nat) (x : Int) : x ∈ upto n ↔ 0 ≤ x ∧ x < n := by
  unfold upto
  rw [List.mem_map]
  constructor
  · rintro ⟨i, hi, rfl⟩
    have := List.mem_range.1 hi; omega
  · intro h
    exact ⟨x.toNat, List.mem_range.2 (by omega), by omega⟩

def SeqPost (ds : List (Int × Int)) (w : World) (e : Ending) (w' : World) : Prop :=
  Below w.heap.size w w' ∧
  if dumpsE ds = 0 then ∃ g : Nat, e = .returned (.tuple #[.slice (some ⟨g, 0, none⟩) ds.length ds.length, .int .i64 (spanF ds (srt (jcf ds) (upto ds.length))), .int .i64 0]) ∧ Blk w' g (ints (srt (jcf ds) (upto ds.length))) 3
  else e = .returned (.tuple #[.slice none 0 0, .int .i64 0, .int .i64 (dumpsE ds)])

set_option maxHeartbeats 4000000 in
theorem seq_any (w : World) (A : Option Addr) (c : Nat) (ds : List (Int × Int)) (h : kP.C w A ds.length ds)
    (hsort : ∀ b g I, dumpsE ds = 0 → SortsTo 53 (jcf ds) (fun x => 0 ≤ x ∧ x < ds.length) 60 b g I (upto ds.length)) :
    Calls Try.prog 33 #[.slice A ds.length c] w (SeqPost ds w) := by
  have hl := Kd.C_max h
  have ra := Cp_lt h
  have hb1 := below_alloc (Below.refl w.heap.size w) (.cells #[.slice A ds.length c] 48)
  have B1 := Blk.new w [.slice A ds.length c] 48
  have hch := checked_any _ A c ds (Kd.C_below h hb1)
  have hc1 := B1.at_ (i := 0) rfl
  have HR := Aside0.mk h; clear h
  have HB1 := Aside0.mk hb1; clear hb1
  have Q1 := Aside0.mk B1; clear B1
  have HCH := Aside0.mk hch; clear hch
  have HS := Aside0.mk hsort; clear hsort
  have RA := Aside0.mk ra; clear ra
  obtain ⟨e0, he0⟩ : ∃ z, z = dumpsE ds := ⟨_, rfl⟩
  have HE := Aside0.mk he0; clear he0
  go_enter Try.func33, Try.ntmps33
  go_upto_region 2 with ((with_reducible refine HCH.out.mono ?_); rintro e5 w5 ⟨rfl, hb5⟩; rw [← HE.out])
  have hbb : Below w.heap.size w w5 := HB1.out.trans (hb5.mono (by simp))
  have q1 := Q1.out.below hb5
  clear hc1 HCH Q1 HB1 hb5
  have Q1 := Aside0.mk q1; clear q1
  have HBB := Aside0.mk hbb; clear hbb
  by_cases hz : e0 = 0
  · have hdo := DOK.of_E (HE.out.symm.trans hz)
    have hE := HE.out
    subst hz
    have hdl := hdo.1
    have HDO := Aside0.mk hdo; clear hdo
    have HE2 := Aside0.mk hE; clear hE
    have hc1 := Q1.out.at_ (i := 0) rfl
    have hris := Aside0.mk (rising_any w5 ds.length (by omega))
    go_upto_region 5 with ((with_reducible refine hris.out.mono ?_); rintro e6 w6 ⟨g, rfl, hg0, hb6, hg6⟩; have HB6 := Aside0.mk (And.intro hg0 (And.intro hb6 hg6)); clear hg0 hb6 hg6)
    obtain ⟨hg0, hb6, hg6⟩ := HB6.out
    clear hc1 hris
    have q6 := Q1.out.below hb6
    have hw5 := Q1.out.lt
    have hI : (w5.heap.size ≤ w6.heap.size) ∧ jI A c w.heap.size ds w6 := ⟨hb6.size, Kd.C_below HR.out (HBB.out.trans (hb6.mono (by omega))), q6.at_ (i := 0) rfl⟩
    have hC := jC (A := A) (c := c) (b := w.heap.size) (g := g) (N := w5.heap.size) (ds := ds) (fun hp ad e => Nat.lt_of_lt_of_le (RA.out hp ad e) (by omega)) hw5 hg0
    have hcall := HS.out w.heap.size g _ HE2.out.symm w6 (fun x hx => (upto_mem _ x).1 hx) hg6 hI hC
    rw [upto_length] at hcall
    have hb7 : Below w.heap.size w w6 := HBB.out.trans (hb6.mono (by omega))
    have HB7 := Aside0.mk hb7
    have HQ6 := Aside0.mk q6; clear q6
    have HG := Aside0.mk (show w.heap.size < g by omega)
    have HC := Aside0.mk hcall; clear hcall hC hI hb7 hg6 hb6 hg0 HB6 hw5 Q1 HBB
    go_upto_region 6 with ((with_reducible refine HC.out.mono ?_); rintro e7 w7 ⟨rfl, hk7, hg7⟩; have HK7 := Aside0.mk (And.intro hk7 hg7); clear hk7 hg7)
    obtain ⟨hk7, hg7⟩ := HK7.out
    have hb8 : Below w.heap.size w w7 := ((Kp.of_below HB7.out : Kp (fun i => i = g) w w6).step hk7).below_of (fun i hi => by have := HG.out; omega)
    have q7 := HQ6.out.kp hk7 (by have := HG.out; omega)
    have hc1 := q7.at_ (i := 0) rfl
    have hol : (srt (jcf ds) (upto ds.length)).length = ds.length := by rw [srt_length, upto_length]
    have hsp := span_any w7 A (some ⟨g, 0, none⟩) c ds.length ds (srt (jcf ds) (upto ds.length)) (Kd.C_below HR.out hb8) (hg7.ints_C (by omega)) HDO.out (fun x hx => (upto_mem _ x).1 ((srt_perm_mem _ _ x).1 hx)) (by omega)
    rw [hol] at hsp
    have HSP := Aside0.mk hsp; clear hsp
    have HB8 := Aside0.mk hb8; clear hb8 q7 hk7 hg7 hol HB7 HQ6 HC
    go_wp2_with ((with_reducible refine HSP.out.mono ?_); rintro e8 w8 ⟨rfl, rfl⟩)
    refine bodyPost_ret (v := .tuple #[.slice (some ⟨g, 0, none⟩) ds.length ds.length, .int .i64 (spanF ds (srt (jcf ds) (upto ds.length))), .int .i64 0]) (by simp [results, Try.results33, go_sem]) rfl ?_
    refine ⟨HB8.out, ?_⟩
    rw [if_pos HE2.out.symm]
    exact ⟨g, rfl, HK7.out.2⟩
  · have hzb : (e0 != 0) = true := by simp [hz]
    go_wp2_with fail
    refine bodyPost_ret (v := .tuple #[.slice none 0 0, .int .i64 0, .int .i64 e0]) (by simp [results, Try.results33, go_sem]) rfl ?_
    exact ⟨HBB.out, by rw [← HE.out, if_neg hz]⟩
end Go.Proofs.Ytnoocdobldchoaa
