/- What the laying of the table answers: its walk. -/
import Derived.Test.YthkfahkkcjagdaaC7
import Derived.Test.YthkfahkkcjagdaaC9
namespace Go.Proofs.Ythkfahkkcjagdaa
open Go.RowKit Go.Proofs.YthkfahkkcjagdaaW.PrintWords Go.Proofs.YthkfahkkcjagdaaW.PrintMore Go.Proofs.YthkfahkkcjagdaaW.PrintLast

theorem enter100 (args : Array Value) (W : World) : (callFunc 100 args).run Try.prog W = .ok (.enter 100 args) W := by kernel_rfl
def fI (A : Option Addr) (c b : Nat) (fs : List Fl) (W : World) : Prop := kF.C W A fs.length fs ∧ W.cell? ⟨b, 0, none⟩ = some (.slice A fs.length c)
theorem fC {A : Option Addr} {c b g N : Nat} {fs : List Fl} (hA : 0 < fs.length → ∀ ad, A = some ad → ad.block < N) (hb : b < N) (hg : N ≤ g) (hk : KOK fs) : CmpC 100 b (fun W => N ≤ W.heap.size ∧ fI A c b fs W) (fcf fs) (fun x => 0 ≤ x ∧ x < fs.length) g where
  en := enter100
  calls := fun W x y hI hx hy => fcmp_any W A c b fs hI.2.1 hI.2.2 x y hx hy (hk.rd x) (hk.rd y)
  keep := fun W W' hI k => by
    refine ⟨Nat.le_trans hI.1 k.size, ?_, ?_⟩
    · exact CF_kp hI.2.1 k (fun hp ad e => ⟨Nat.lt_of_lt_of_le (hA hp ad e) hI.1, fun h => by have := hA hp ad e; omega⟩)
    · exact k.cell hI.2.2 (fun h => by dsimp only at h; omega)
theorem upto_set (n i : Nat) (h : i < n) : (upto i ++ List.replicate (n - i) 0).set i (i : Int) = upto (i + 1) ++ List.replicate (n - (i + 1)) 0 := by
  rw [List.set_append_right _ _ (by rw [upto_length]; omega), upto_length, Nat.sub_self, show n - i = (n - (i + 1)) + 1 by omega, List.replicate_succ, List.set_cons_zero, upto_succ, List.append_assoc]
  rfl

set_option maxHeartbeats 8000000 in
set_option maxRecDepth 100000 in
theorem laid_any (w : World) (A : Option Addr) (c : Nat) (fs : List Fl) (h : kF.C w A fs.length fs) (hk : KOK fs) (l least p : Int) :
    Calls Try.prog 61 #[.slice A fs.length c, .agg #[.int .i64 l, .int .i64 least, .int .i64 p]] w (LaidPost fs A c l least p w) := by
  have ra := CF_lt h
  have hlm := Kd.C_max h
  have b1 := below_alloc (Below.refl w.heap.size w) (.cells #[.slice A fs.length c] 22)
  have b2 := below_alloc b1 (.cells #[.int .i64 l, .int .i64 least, .int .i64 p] 24)
  have q1 := (Blk.new w [.slice A fs.length c] 22).alloc (.cells #[.int .i64 l, .int .i64 least, .int .i64 p] 24)
  have q2 := Blk.new (w.alloc (.cells #[.slice A fs.length c] 22)) [.int .i64 l, .int .i64 least, .int .i64 p] 24
  have e1 : (w.alloc (.cells #[.slice A fs.length c] 22)).heap.size = w.heap.size + 1 := by simp
  rw [e1] at q2
  have c1 := q1.at_ (i := 0) rfl
  have s0 := q2.at_ (i := 0) rfl
  have s1 := q2.at_ (i := 1) rfl
  have s2 := q2.at_ (i := 2) rfl
  obtain ⟨w2, hw2⟩ : ∃ z, z = (w.alloc (.cells #[.slice A fs.length c] 22)).alloc (.cells #[.int .i64 l, .int .i64 least, .int .i64 p] 24) := ⟨_, rfl⟩
  have Q2 := Aside0.mk (show Blk w2 w.heap.size [.slice A fs.length c] 22 ∧ Blk w2 (w.heap.size + 1) [.int .i64 l, .int .i64 least, .int .i64 p] 24 ∧ Below w.heap.size w w2 by rw [hw2]; exact ⟨q1, q2, b2⟩)
  have HW2 := Aside0.mk hw2; clear hw2 q1 q2 b1 b2 e1
  have HR := Aside0.mk (show kF.C w A fs.length fs ∧ (0 < fs.length → ∀ ad, A = some ad → ad.block < w.heap.size) ∧ KOK fs from ⟨h, ra, hk⟩); clear h ra hk
  by_cases hlen : 128 < fs.length
  · have HE : Aside0 (errE fs l least p = 3) := ⟨by unfold errE; rw [if_pos hlen]⟩
    have hlen' : (128 : Int) < fs.length := by omega
    clear hlen
    go_enter Try.func61, Try.ntmps61
    go_wp2_with fail
    go_ret2
    refine ⟨by rw [← HW2.out]; exact Q2.out.2.2, ?_⟩
    rw [HE.out, if_neg (by decide)]
    rfl
  have hlen' : ¬ (128 : Int) < fs.length := by omega
  have hld : decide ((128 : Int) < fs.length) = false := decide_eq_false hlen'
  have hsp := Aside0.mk (fun W => spec_any W l least p)
  cases hS : spOK l least p with
  | false =>
    rw [hS] at hsp
    have HE : Aside0 (errE fs l least p = 2) := ⟨by unfold errE; rw [if_neg hlen, if_neg (by rw [hS]; simp)]⟩
    clear hS hlen hlen'
    go_enter Try.func61, Try.ntmps61
    go_wp2_with ((with_reducible refine (hsp.out _).mono ?_); rintro e5 w5 ⟨rfl, hb5⟩; have HB5 := Aside0.mk hb5; clear hb5)
    go_ret2
    refine ⟨below_step (by rw [← HW2.out]; exact Q2.out.2.2) HB5.out, ?_⟩
    rw [HE.out, if_neg (by decide)]
    rfl
  | true =>
    rw [hS] at hsp
    have hcf := Aside0.mk (fun W (hW : kF.C W A fs.length fs) => anyBad_any W A c fs hW)
    have hc5 := fun W (hW : Blk W w.heap.size [.slice A fs.length c] 22) => hW.at_ (i := 0) rfl
    cases hF : fs.all flOK with
    | false =>
      rw [hF] at hcf
      have HE : Aside0 (errE fs l least p = 2) := ⟨by unfold errE; rw [if_neg hlen, if_neg (by rw [hF]; simp)]⟩
      clear hS hF hlen hlen'
      go_enter Try.func61, Try.ntmps61
      go_wp2_with (first | ((with_reducible refine (hsp.out _).mono ?_); rintro e5 w5 ⟨rfl, hb5⟩; have hq5 := (show Blk w5 w.heap.size [.slice A fs.length c] 22 from Blk.below (HW2.out ▸ Q2.out.1) hb5).at_ (i := 0) rfl; have HB5 := Aside0.mk (below_step (HW2.out ▸ Q2.out.2.2) hb5); clear hb5) | ((with_reducible refine (hcf.out _ (Kd.C_below HR.out.1 HB5.out)).mono ?_); rintro e6 w6 ⟨rfl, hb6⟩; have HB6 := Aside0.mk (below_step HB5.out hb6); clear hb6))
      go_ret2
      refine ⟨HB6.out, ?_⟩
      rw [HE.out, if_neg (by decide)]
      rfl
    | true =>
      rw [hF] at hcf
      have HE : Aside0 (errE fs l least p = 0) := ⟨by unfold errE; rw [if_neg hlen, if_pos ⟨hS, hF⟩]⟩
      have HSF := Aside0.mk (And.intro hS hF)
      have hn128 : fs.length ≤ 128 := by omega
      clear hS hF hlen hlen'
      obtain ⟨n, hn0⟩ : ∃ z, z = fs.length := ⟨_, rfl⟩
      have mk1 := print_make (P := Try.prog) 35 3 .i64 8 Try.underlying35 info3 (by decide) n (by omega)
      have HN := Aside0.mk hn0
      have hnn : n ≤ 128 := by omega
      have HFN : Aside0 (∀ W, kF.C W A fs.length fs → kF.C W A n fs) := ⟨fun W h => by rw [hn0]; exact h⟩
      rw [← hn0] at hcf c1 Q2 HW2 hld hc5 ⊢
      clear hn0 hn128 hlm hc5
      go_enter Try.func61, Try.ntmps61
      go_upto_region 5 with (first | ((with_reducible refine (hsp.out _).mono ?_); rintro e5 w5 ⟨rfl, hb5⟩; have hq5 := (show Blk w5 w.heap.size [.slice A n c] 22 from Blk.below (HW2.out ▸ Q2.out.1) hb5).at_ (i := 0) rfl; have HB5 := Aside0.mk (And.intro (below_step (HW2.out ▸ Q2.out.2.2) hb5) (And.intro (Blk.below (HW2.out ▸ Q2.out.1) hb5) (Blk.below (HW2.out ▸ Q2.out.2.1) hb5))); clear hb5) | ((with_reducible refine (hcf.out _ (HFN.out _ (Kd.C_below HR.out.1 HB5.out.1))).mono ?_); rintro e6 w6 ⟨rfl, hb6⟩; have hq6 := (HB5.out.2.1.below hb6).at_ (i := 0) rfl; have HB6 := Aside0.mk (And.intro (below_step HB5.out.1 hb6) (And.intro (HB5.out.2.1.below hb6) (HB5.out.2.2.below hb6))); clear hb6))
      clear c1 s0 s1 s2 hq5 hsp hcf
      have hq6a := fun o => (HB6.out.2.1.alloc o).at_ (i := 0) rfl
      go_region
      go_wp2_with fail
      have a7 := h2_0 w6 (madeCells #[.int .i64 0] n) #[.slice A n c, .slice (some ⟨w6.heap.size, 0, none⟩) n n, .slice none 0 0, .slice none 0 0] 3 104
      have t7 := h2_1 w6 (madeCells #[.int .i64 0] n) #[.slice A n c, .slice (some ⟨w6.heap.size, 0, none⟩) n n, .slice none 0 0, .slice none 0 0] 3 104
      have bw7 := h2_b w6 (madeCells #[.int .i64 0] n) #[.slice A n c, .slice (some ⟨w6.heap.size, 0, none⟩) n n, .slice none 0 0, .slice none 0 0] 3 104
      rw [made_ints] at a7
      rw [made_ints] at t7 bw7 ⊢
      generalize ((w6.alloc (.cells (ints (List.replicate n 0)).toArray 3)).alloc (.cells #[.slice A n c, .slice (some ⟨w6.heap.size, 0, none⟩) n n, .slice none 0 0, .slice none 0 0] 104)).drew = w7 at a7 t7 bw7 ⊢
      have a7' : Blk w7 w6.heap.size (ints (List.replicate n 0)) 3 := a7
      have t7' : Blk w7 (w6.heap.size + 1) [.slice A n c, .slice (some ⟨w6.heap.size, 0, none⟩) n n, .slice none 0 0, .slice none 0 0] 104 := t7
      have hq1 := HB6.out.2.1.below bw7
      have hq2 := HB6.out.2.2.below bw7
      have hbw := below_step HB6.out.1 bw7
      have hsz := HB6.out.2.2.lt
      obtain ⟨o, ho⟩ : ∃ z, z = w6.heap.size := ⟨_, rfl⟩
      rw [← ho] at a7' t7' hsz ⊢
      have H7 := Aside0.mk (And.intro a7' (And.intro t7' (And.intro hq1 (And.intro hq2 hbw))))
      clear a7 t7 bw7 a7' t7' hq1 hq2 hbw HB6 HB5 hq6 hq6a mk1 ho
      go_loopw [7, 30] (fun _ v wr => ∃ i : Nat, v = .int .i64 i ∧ i ≤ n ∧ Aside0 (Kp (fun k => k = o) w7 wr ∧ Blk wr o (ints (upto i ++ List.replicate (n - i) 0)) 3)) (fun _ v _ => n - (intOf v).toNat)
      case atStart => exact ⟨0, rfl, by omega, ⟨Kp.refl _ _, by simpa [upto] using H7.out.1⟩⟩
      case round =>
        obtain ⟨i, rfl, hi, HJ⟩ := hrel
        have htn : Blk wr (o + 1) [.slice A n c, .slice (some ⟨o, 0, none⟩) n n, .slice none 0 0, .slice none 0 0] 104 := H7.out.2.1.kp HJ.out.1 (by omega)
        have ct := htn.at_ (i := 1) rfl
        by_cases hlt : i < n
        · have hlti : (i : Int) < n := by omega
          have hil : i < (upto i ++ List.replicate (n - i) 0).length := by simp [upto_length]; omega
          have f1 := HJ.out.2.at_ (ints_get _ hil)
          have f2 := HJ.out.2.free i
          clear hil htn
          go_wp2_with fail
          go_roundw
          case rel =>
            refine ⟨i + 1, by go_num, by omega, ⟨HJ.out.1.setCell (fun _ => rfl) _, ?_⟩⟩
            have := HJ.out.2.set i (.int .i64 i)
            rw [ints_set, upto_set _ _ hlt] at this
            exact this
          case measure => simp [intOf]; omega
        · have hlti : ¬ (i : Int) < n := by omega
          have hu : Blk wr o (ints (upto fs.length)) 3 := by
            have := HJ.out.2
            rw [show i = n by omega, Nat.sub_self, HN.out] at this
            simpa using this
          have hq1 := H7.out.2.2.1.kp HJ.out.1 (H7.out.2.2.1.ne_of_type H7.out.1 (by decide))
          have hq2 := H7.out.2.2.2.1.kp HJ.out.1 (H7.out.2.2.2.1.ne_of_type H7.out.1 (by decide))
          have hbw : Below w.heap.size w wr := ((Kp.of_below H7.out.2.2.2.2 : Kp (fun i => i = o) w w7).step HJ.out.1).below_of (fun i hi => by omega)
          have hcell := hq1.at_ (i := 0) rfl
          have hsrt := sorts128 (k := 100) (b := w.heap.size) (g := o) (I := fun W => w.heap.size + 1 ≤ W.heap.size ∧ fI A c w.heap.size fs W) (fcf_law HR.out.2.2) (show fs.length ≤ 128 by rw [← HN.out]; exact hnn) wr (fun x hx => (upto_mem _ x).1 hx) hu ⟨by have := htn.lt; omega, Kd.C_below HR.out.1 hbw, by rw [← HN.out]; exact hcell⟩ (fC (N := w.heap.size + 1) (fun hp ad e => by have := HR.out.2.1 hp ad e; omega) (by omega) (by omega) HR.out.2.2)
          rw [upto_length, ← HN.out] at hsrt
          have HSRT := Aside0.mk hsrt
          have HT8 := Aside0.mk (And.intro htn (And.intro hq1 (And.intro hq2 hbw)))
          clear hsrt hcell hu htn hq1 hq2 hbw
          have hen := enter100
          go_upto_region 12 with ((with_reducible refine HSRT.out.mono ?_); rintro e8 w8 ⟨rfl, hk8, hg8⟩; have H8 := Aside0.mk (And.intro hk8 hg8); clear hk8 hg8)
          have hg8 : Blk w8 o (ints (ordF fs)) 3 := by unfold ordF; rw [← HN.out]; exact H8.out.2
          have hn8 : ∀ b cs t, Blk wr b cs t → b ≠ o → Blk w8 b cs t := fun b cs t hb hne => hb.kp H8.out.1 hne
          have t8 := hn8 _ _ _ HT8.out.1 (by omega)
          have s8 := hn8 _ _ _ HT8.out.2.2.1 (by omega)
          have b8 : Below w.heap.size w w8 := ((Kp.of_below HT8.out.2.2.2 : Kp (fun i => i = o) w wr).step H8.out.1).below_of (fun i hi => by omega)
          have ct := t8.at_ (i := 1) rfl
          have htt : TT w8 w.heap.size (o + 1) o A c fs (ordF fs) least p (.slice none 0 0) (.slice none 0 0) [] [] :=
            ⟨⟨by rw [← HN.out]; exact t8, hg8, Kd.C_below HR.out.1 b8, ordF_length fs, fun x hx => ordF_mem hx⟩, ⟨rfl, .inl ⟨rfl, rfl⟩⟩, ⟨rfl, .inl ⟨rfl, rfl⟩⟩, fun k hk => by simp [Value.ownBlock] at hk, rfl, fun a ha => by simp at ha, fun a ha => by simp at ha, by omega, HR.out.2.1⟩
          have H9 := Aside0.mk (And.intro htt (And.intro s8 b8))
          clear htt t8 s8 b8 hn8 hg8 HSRT HT8 H8 HJ H7
          go_wp2_with fail
          go_loopw [8, 52] (fun _ v wr => ∃ (i : Nat) (cv ev : Value) (r1s r2s : List Nat), v = .int .i64 i ∧ i ≤ n ∧ Aside0 (TT wr w.heap.size (o + 1) o A c fs (ordF fs) least p cv ev r1s r2s ∧ r1s.length = i ∧ Blk wr (w.heap.size + 1) [.int .i64 l, .int .i64 least, .int .i64 p] 24 ∧ Below w.heap.size w wr)) (fun _ v _ => n - (intOf v).toNat)
          case atStart => exact ⟨0, _, _, [], [], rfl, by omega, ⟨H9.out.1, rfl, H9.out.2⟩⟩
          case round =>
            obtain ⟨i, cv, ev, r1s, r2s, rfl, hi, HI⟩ := hrel
            by_cases hlt : i < n
            · have hlti : (i : Int) < n := by omega
              have hsb := HSF.out.1
              unfold spOK at hsb
              rw [decide_eq_true_eq] at hsb
              have hil : r1s.length = i := HI.out.2.1
              have hrow := row_any wr (o + 1) o A c fs (ordF fs) cv ev HI.out.1.tb (by rw [← HN.out]; exact hnn) i (by rw [← HN.out]; exact hlt) l least p ⟨hsb.2.2.1, hsb.2.2.2.1⟩ ⟨hsb.2.2.2.2.1, hsb.2.2.2.2.2⟩ (ordF_SOK HSF.out.2) (ordF_sorted HR.out.2.2) w.heap.size HI.out.2.2.2.size (sls (fs.length + 1) r1s) (sls (fs.length + 1) r2s) HI.out.1.c HI.out.1.e (by rw [sls_length]; omega) (by rw [sls_length, HI.out.1.l]; omega) HI.out.1.d HR.out.2.1 (by omega)
              have HROW := Aside0.mk hrow; clear hrow hsb hil
              have s0 := HI.out.2.2.1.at_ (i := 0) rfl
              have s1 := HI.out.2.2.1.at_ (i := 1) rfl
              have s2 := HI.out.2.2.1.at_ (i := 2) rfl
              go_wp2_with ((with_reducible refine HROW.out.mono ?_); rintro e9 w9 hp9; obtain ⟨rfl, cv', ev', r1, r2, ht9, hk9, hb9⟩ := (by have := HI.out.1.step (w' := w9) (e0 := e9) (by rw [HI.out.2.1]; exact hp9); exact this); have H10 := Aside0.mk (And.intro ht9 (And.intro hk9 (hb9 _ _ _ HI.out.2.2.1 (by decide) (by decide)))); clear ht9 hk9 hb9 hp9)
              go_roundw
              case rel => exact ⟨i + 1, cv', ev', r1s ++ [r1], r2s ++ [r2], by go_num, by omega, ⟨H10.out.1, by rw [List.length_append, HI.out.2.1]; rfl, H10.out.2.2, ((Kp.of_below HI.out.2.2.2 : Kp (fun k => w.heap.size ≤ k) w wr).step H10.out.2.1).below_of (fun i hi => hi)⟩⟩
              case measure => simp [intOf]; omega
            · have hlti : ¬ (i : Int) < n := by omega
              go_wp2_with fail
              go_ret2
              refine ⟨HI.out.2.2.2, ?_⟩
              rw [if_pos HE.out]
              exact ⟨o + 1, o, cv, ev, r1s, r2s, rfl, HI.out.1, by rw [HI.out.2.1, ← HN.out]; omega⟩
end Go.Proofs.Ythkfahkkcjagdaa
