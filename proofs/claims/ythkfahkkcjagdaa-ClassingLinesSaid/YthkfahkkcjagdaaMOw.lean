/- The fleeces in memory of their own, with a mark behind; and whether they were kept: plain parts. -/
import Derived.Test.YthkfahkkcjagdaaD2
import Derived.Test.YthkfahkkcjagdaaC0
import Derived.Test.YthkfahkkcjagdaaWEqStruct
import Derived.Laws.StructEq
import Derived.Test.YthkfahkkcjagdaaMSh
import Derived.Deep.RegionWith
import Derived.Deep.MidRow
import Derived.BigQuiet
import Derived.Test.YthkfahkkcjagdaaRc6
namespace Go.Proofs.Ythkfahkkcjagdaa
open Go.RowKit Go.Proofs.YthkfahkkcjagdaaW.PrintWords Go.Proofs.YthkfahkkcjagdaaW.PrintMore Go.Proofs.YthkfahkkcjagdaaW.PrintLast

theorem flat_fcs_len (L : List Fl) : (L.flatMap fcs).length = L.length * 6 := by
  induction L with
  | nil => rfl
  | cons a L ih => rw [List.flatMap_cons, List.length_append, ih, List.length_cons]; show 6 + _ = _; omega
/-- One fleece of a row is written. -/
theorem flat_set : ∀ (L : List Fl) (i : Nat) (f : Fl), i < L.length →
    ((((((L.flatMap fcs).set (i * 6) (.int .u8 f.k0)).set (i * 6 + 1) (.int .u8 f.k1)).set (i * 6 + 2) (.int .u8 f.k2)).set (i * 6 + 3) (.int .u8 f.k3)).set (i * 6 + 4) (.int .i64 f.mic)).set (i * 6 + 5) (.int .i64 f.gr) = (L.set i f).flatMap fcs
  | [], i, f, h => by simp at h
  | a :: L, 0, f, h => by
    rw [List.flatMap_cons, List.set_cons_zero, List.flatMap_cons]
    rfl
  | a :: L, i + 1, f, h => by
    have ih := flat_set L i f (by simpa using h)
    rw [List.set_cons_succ, List.flatMap_cons, List.flatMap_cons, ← ih]
    have e : ∀ (X : List Value) (k : Nat) (v : Value), (fcs a ++ X).set ((i + 1) * 6 + k) v = fcs a ++ X.set (i * 6 + k) v := fun X k v => by
      rw [List.set_append_right _ _ (by show 6 ≤ _; omega)]
      congr 2
      show (i + 1) * 6 + k - 6 = _
      omega
    have e0 : ∀ (X : List Value) (v : Value), (fcs a ++ X).set ((i + 1) * 6) v = fcs a ++ X.set (i * 6) v := fun X v => e X 0 v
    simp only [e0, e]
theorem Blk.setF {w : World} {g : Nat} {L : List Fl} {t : TypeId} (h : Blk w g (L.flatMap fcs) t) {i : Nat} (hi : i < L.length) (f : Fl) :
    Blk ((((((w.setCell ⟨g, i * 6, none⟩ (.int .u8 f.k0)).setCell ⟨g, i * 6 + 1, none⟩ (.int .u8 f.k1)).setCell ⟨g, i * 6 + 2, none⟩ (.int .u8 f.k2)).setCell ⟨g, i * 6 + 3, none⟩ (.int .u8 f.k3)).setCell ⟨g, i * 6 + 4, none⟩ (.int .i64 f.mic)).setCell ⟨g, i * 6 + 5, none⟩ (.int .i64 f.gr)) g ((L.set i f).flatMap fcs) t := by
  rw [← flat_set L i f hi]
  exact (((((h.set _ _).set _ _).set _ _).set _ _).set _ _).set _ _
/-- Two equal fleeces compared. -/
theorem fl_same (w : World) (a0 a1 a2 a3 a4 a5 : Int) : (Op.equalIn 10000 44 (.agg #[.int .u8 a0, .int .u8 a1, .int .u8 a2, .int .u8 a3, .int .i64 a4, .int .i64 a5]) (.agg #[.int .u8 a0, .int .u8 a1, .int .u8 a2, .int .u8 a3, .int .i64 a4, .int .i64 a5])).run Try.prog w = .ok true w := by
  have hk : (Op.equalIn 9999 34 (.agg #[.int .u8 a0, .int .u8 a1, .int .u8 a2, .int .u8 a3]) (.agg #[.int .u8 a0, .int .u8 a1, .int .u8 a2, .int .u8 a3])).run Try.prog w = .ok true w := by
    have h := run_equalIn_u8 (P := Try.prog) w 9997 34 5 4 Try.underlying34 Try.underlying5 Try.sizeOf5 [a0, a1, a2, a3] [a0, a1, a2, a3] rfl rfl
    rw [beq_self_eq_true] at h
    exact h
  have h4 : (Op.equalIn 9999 3 (.int .i64 a4) (.int .i64 a4)).run Try.prog w = .ok true w := by
    rw [run_equalIn_int w 9998 3 .i64 .i64 a4 a4 Try.underlying3, beq_self_eq_true]
  have h5 : (Op.equalIn 9999 3 (.int .i64 a5) (.int .i64 a5)).run Try.prog w = .ok true w := by
    rw [run_equalIn_int w 9998 3 .i64 .i64 a5 a5 Try.underlying3, beq_self_eq_true]
  refine eqA_of (P := Try.prog) (d := 9999) (t := 44) Try.underlying44 (by kernel_rfl) ?_
  refine eqf_end rfl (a := .agg #[.int .u8 a0, .int .u8 a1, .int .u8 a2, .int .u8 a3]) (b := .agg #[.int .u8 a0, .int .u8 a1, .int .u8 a2, .int .u8 a3]) (by kernel_rfl) (by kernel_rfl) hk ?_
  refine eqf_end rfl (a := .int .i64 a4) (b := .int .i64 a4) (by kernel_rfl) (by kernel_rfl) h4 ?_
  exact eqf_end rfl (a := .int .i64 a5) (b := .int .i64 a5) (by kernel_rfl) (by kernel_rfl) h5 eqf_nil
theorem info44o : (Try.prog.info? 44).map (fun i => (i.zero, i.size, i.bytes)) = some (some (.agg #[.int .u8 0, .int .u8 0, .int .u8 0, .int .u8 0, .int .i64 0, .int .i64 0]), 6, 24) := by kernel_rfl
theorem made_fls (m : Nat) : madeCells #[.int .u8 0, .int .u8 0, .int .u8 0, .int .u8 0, .int .i64 0, .int .i64 0] (m * 6) = ((List.replicate m fl0).flatMap fcs).toArray := by
  apply Array.ext'
  apply List.ext_getElem?
  intro j
  rw [List.toList_toArray]
  have hx : ∀ (m j : Nat), ((List.replicate m fl0).flatMap fcs)[j]? = if j < m * 6 then (fcs fl0)[j % 6]? else none := by
    intro m
    induction m with
    | zero => intro j; simp
    | succ m ih =>
      intro j
      rw [List.replicate_succ, List.flatMap_cons]
      by_cases hj : j < 6
      · rw [List.getElem?_append_left (by exact hj), if_pos (by omega), Nat.mod_eq_of_lt hj]
      · rw [List.getElem?_append_right (by show 6 ≤ j; omega), ih]
        show (if j - 6 < m * 6 then (fcs fl0)[(j - 6) % 6]? else none) = _
        rw [show (j - 6) % 6 = j % 6 by omega]
        by_cases h : j - 6 < m * 6
        · rw [if_pos h, if_pos (by omega)]
        · rw [if_neg h, if_neg (by omega)]
  rw [hx]
  by_cases hj : j < m * 6
  · rw [if_pos hj]
    have h6 : j % 6 < 6 := Nat.mod_lt _ (by decide)
    simp [madeCells, hj]
    obtain ⟨r, hr⟩ : ∃ r, r = j % 6 := ⟨_, rfl⟩
    rw [← hr] at h6 ⊢
    have : r = 0 ∨ r = 1 ∨ r = 2 ∨ r = 3 ∨ r = 4 ∨ r = 5 := by omega
    rcases this with rfl | rfl | rfl | rfl | rfl | rfl <;> rfl
  · rw [if_neg hj]
    simp [madeCells, hj]
theorem mk44 (m : Nat) (hm : m ≤ 1000) (W : World) : (Instr.makeSlice 22 (.int .i64 (m : Int)) (.int .i64 (m : Int))).run Try.prog W = .ok (.slice (some ⟨W.heap.size, 0, none⟩) m m) (W.alloc (.cells ((List.replicate m fl0).flatMap fcs).toArray 44)) := by
  obtain ⟨i0, hi, hz0, hz1, hz2⟩ := info_parts info44o
  have h := run_make (P := Try.prog) W 22 44 i0 _ Try.underlying22 hi hz0 .i64 .i64 m m (by omega) (by omega) (by rw [hz2]; omega) (by omega)
  rw [hz1, Int.toNat_natCast] at h
  rw [h, ← made_fls]
  rfl
end Go.Proofs.Ythkfahkkcjagdaa
namespace Go.Proofs.Ythkfahkkcjagdaa
open Go.RowKit Go.Proofs.YthkfahkkcjagdaaW.PrintWords Go.Proofs.YthkfahkkcjagdaaW.PrintMore Go.Proofs.YthkfahkkcjagdaaW.PrintLast

def fl7 : Fl := ⟨0, 0, 0, 0, 7, 7⟩
/-- The row when i fleeces were laid over. -/
def ownL (fs : List Fl) (n i : Nat) : List Fl := fs.take i ++ List.replicate (n + 1 - i) fl0
/-- A world gets a name of its own. -/
theorem hid_wp {Pr : Program} {ops : Array Oper} {Q : Exit → Act → World → Prop} {rest : List Oper} {a : Act} {W : World} {P : World → Prop} (h : P W) (k : ∀ w, P w → wpList Pr ops Q rest a w) : wpList Pr ops Q rest a W := k W h
theorem oneF (f0 f1 f2 f3 f4 f5 : Int) : (#[Value.int .u8 f0, .int .u8 f1, .int .u8 f2, .int .u8 f3, .int .i64 f4, .int .i64 f5] : Array Value).all (·.oneCell') = true := by simp [Value.oneCell']
theorem ownL_length {fs : List Fl} {n i : Nat} (hn : fs.length = n) (hi : i ≤ n) : (ownL fs n i).length = n + 1 := by
  unfold ownL; rw [List.length_append, List.length_take, List.length_replicate]; omega
theorem ownL_set {fs : List Fl} {n i : Nat} (hn : fs.length = n) (hi : i < n) : (ownL fs n i).set i (rdF fs i) = ownL fs n (i + 1) := by
  unfold ownL rdF
  rw [Int.toNat_natCast, List.set_append_right _ _ (by rw [List.length_take]; omega), List.length_take, show i - min i fs.length = 0 by omega, show n + 1 - i = (n - i) + 1 by omega, List.replicate_succ, List.set_cons_zero, List.take_succ_eq_append_getElem (show i < fs.length by omega), show n + 1 - (i + 1) = n - i by omega, List.append_assoc, List.getD_eq_getElem?_getD, List.getElem?_eq_getElem (show i < fs.length by omega)]
  rfl
theorem ownL_last {fs : List Fl} {n : Nat} (hn : fs.length = n) : (ownL fs n n).set n fl7 = fs ++ [fl7] := by
  unfold ownL
  rw [List.set_append_right _ _ (by rw [List.length_take]; omega), List.length_take, show n - min n fs.length = 0 by omega, show n + 1 - n = 0 + 1 by omega, List.replicate_succ, List.set_cons_zero, List.take_of_length_le (by omega)]
  rfl
theorem ownL_at {fs : List Fl} {n i : Nat} (hn : fs.length = n) (hi : i ≤ n) : (ownL fs n i)[i]? = some fl0 := by
  unfold ownL
  rw [List.getElem?_append_right (by rw [List.length_take]; omega), List.length_take, List.getElem?_replicate, if_pos (by omega)]
theorem Blk.there_ {w : World} {g : Nat} {cs : List Value} {t : TypeId} (h : Blk w g cs t) {o n : Nat} (hn : o + n ≤ cs.length) : w.there g o n := fun j hj => ⟨by rw [h.at_ (List.getElem?_eq_getElem (show o + j < cs.length by omega))]; rfl, h.free _⟩
theorem Blk.setG {w : World} {g : Nat} {L : List Fl} {t : TypeId} (h : Blk w g (L.flatMap fcs) t) {i : Nat} (hi : i < L.length) (f : Fl) : Blk (w.setCells g (i * 6) (fcs f)) g ((L.set i f).flatMap fcs) t := h.setF hi f
theorem below_setCells {N g : Nat} {w : World} (hg : N ≤ g) : ∀ (vs : List Value) (o : Nat) (W : World), Below N w W → Below N w (W.setCells g o vs)
  | [], _, _, h => h
  | v :: vs, o, _, h => below_setCells hg vs (o + 1) _ (Below.setCell h hg v)
theorem at_G {w : World} {A : Option Addr} {n : Nat} {xs : List Fl} (h : kF.C w A n xs) (i : Nat) (h1 : i < n) : ∃ ad, A = some ad ∧ w.cell? (ad.add (i * 6)) = some (.int .u8 (rdF xs i).k0) ∧ w.cell? ⟨(ad.add (i * 6)).block, (ad.add (i * 6)).off + 1, none⟩ = some (.int .u8 (rdF xs i).k1) ∧ w.cell? ⟨(ad.add (i * 6)).block, (ad.add (i * 6)).off + 2, none⟩ = some (.int .u8 (rdF xs i).k2) ∧ w.cell? ⟨(ad.add (i * 6)).block, (ad.add (i * 6)).off + 3, none⟩ = some (.int .u8 (rdF xs i).k3) ∧ w.cell? ⟨(ad.add (i * 6)).block, (ad.add (i * 6)).off + 4, none⟩ = some (.int .i64 (rdF xs i).mic) ∧ w.cell? ⟨(ad.add (i * 6)).block, (ad.add (i * 6)).off + 5, none⟩ = some (.int .i64 (rdF xs i).gr) := by
  have := at_F h (i : Int) (by omega) (by omega)
  rwa [Int.toNat_natCast] at this
set_option maxHeartbeats 4000000 in
theorem own_any (w : World) (A : Option Addr) (n c : Nat) (fs : List Fl) (hn : fs.length = n) (h : kF.C w A n fs) (hn8 : n ≤ 140) :
    Calls Try.prog 22 #[.slice A n c] w fun e w' => e = .returned (.slice (some ⟨w.heap.size, 0, none⟩) n (n + 1 : Nat)) ∧ Blk w' w.heap.size ((fs ++ [fl7]).flatMap fcs) 44 ∧ Below w.heap.size w w' := by
  have mk1 := mk44 (n + 1) (by omega)
  rw [show ((n + 1 : Nat) : Int) = (n : Int) + 1 by omega] at mk1
  have h7 : Blk (w.alloc (.cells ((List.replicate (n + 1) fl0).flatMap fcs).toArray 44)) w.heap.size ((ownL fs n 0).flatMap fcs) 44 ∧ Below w.heap.size w (w.alloc (.cells ((List.replicate (n + 1) fl0).flatMap fcs).toArray 44)) := ⟨Blk.new _ _ _, below_alloc (Below.refl _ _) _⟩
  have H7 := Aside0.mk h7
  have HN := Aside0.mk hn
  have HH := Aside0.mk h
  clear h7 hn h
  go_enter Try.func22, Try.ntmps22
  go_upto_region 2 with fail
  clear mk1
  generalize w.alloc (.cells ((List.replicate (n + 1) fl0).flatMap fcs).toArray 44) = w1 at H7 ⊢
  obtain ⟨g, hg⟩ : ∃ z, z = w.heap.size := ⟨_, rfl⟩
  rw [← hg] at H7 ⊢
  have HG := Aside0.mk hg; clear hg
  go_wp2_with fail
  go_loopw [4] (fun v4 wr => ∃ i : Nat, v4 = .int .i64 i ∧ i ≤ n ∧ Aside0 (Blk wr g ((ownL fs n i).flatMap fcs) 44 ∧ Below g w wr)) (fun v4 _ => n - (intOf v4).toNat)
  case atStart => exact ⟨0, rfl, by omega, H7⟩
  case round =>
    obtain ⟨i, rfl, hi, HW⟩ := hrel
    by_cases hlt : i < n
    · obtain ⟨ad, rfl, c0, c1, c2, c3, c4, c5⟩ := at_G (Kd.C_below HH.out (by have := HW.out.2; rwa [HG.out] at this)) i hlt
      have hs := Blk.setG HW.out.1 (i := i) (by rw [ownL_length HN.out hi]; omega) (rdF fs i)
      rw [ownL_set HN.out hlt] at hs
      have hth : wr.there g (i * 6) 6 := HW.out.1.there_ (by rw [flat_fcs_len, ownL_length HN.out hi]; omega)
      generalize rdF fs i = f at hs c0 c1 c2 c3 c4 c5
      obtain ⟨f0, f1, f2, f3, f4, f5⟩ := f
      dsimp only at c0 c1 c2 c3 c4 c5
      have HS := Aside0.mk (And.intro hs (below_setCells (Nat.le_refl _) (fcs ⟨f0, f1, f2, f3, f4, f5⟩) (i * 6) _ HW.out.2))
      have HTH := Aside0.mk hth
      clear hs hth
      go_upto_region 4 with ((with_reducible refine gate_store (t := 44) (p := 21) (v := .tmp 20) rfl ?_); refine wpList_store_mid rfl 44 (.tmp 21) (.tmp 20) rfl g (i * 6) #[.int .u8 f0, .int .u8 f1, .int .u8 f2, .int .u8 f3, .int .i64 f4, .int .i64 f5] rfl rfl HTH.out (by kernel_rfl) (oneF ..) ?_; refine hid_wp (P := fun W => Blk W g ((ownL fs n (i + 1)).flatMap fcs) 44 ∧ Below g w W) HS.out ?_; intro w9 h9; have H9 := Aside0.mk h9; clear h9)
      go_wp2_with fail
      go_roundw
      case rel => exact ⟨i + 1, by go_num, by omega, H9⟩
      case measure => simp [intOf]; omega
    · obtain rfl : i = n := by omega
      have hs := Blk.setG HW.out.1 (i := i) (by rw [ownL_length HN.out hi]; omega) fl7
      rw [ownL_last HN.out] at hs
      have hth : wr.there g (i * 6) 6 := HW.out.1.there_ (by rw [flat_fcs_len, ownL_length HN.out hi]; omega)
      have HS := Aside0.mk (And.intro hs (below_setCells (Nat.le_refl _) (fcs fl7) (i * 6) _ HW.out.2))
      have HTH := Aside0.mk hth
      clear hs hth
      go_upto_region 7 with ((with_reducible refine gate_store (t := 44) (p := 26) (v := .tmp 25) rfl ?_); refine wpList_store_mid rfl 44 (.tmp 26) (.tmp 25) rfl g (i * 6) #[.int .u8 0, .int .u8 0, .int .u8 0, .int .u8 0, .int .i64 7, .int .i64 7] rfl rfl HTH.out (by kernel_rfl) (oneF ..) ?_; refine hid_wp (P := fun W => Blk W g ((fs ++ [fl7]).flatMap fcs) 44 ∧ Below g w W) HS.out ?_; intro w9 h9; have H9 := Aside0.mk h9; clear h9)
      go_wp2_with fail
      rw [← HG.out]
      go_ret
      exact ⟨rfl, H9.out⟩
theorem own_C {fs : List Fl} {n : Nat} (hn : fs.length = n) (hn8 : n ≤ 140) {W : World} {g : Nat} (hb : Blk W g ((fs ++ [fl7]).flatMap fcs) 44) : kF.C W (some ⟨g, 0, none⟩) n fs := by
  have h := Blk.fl_C hb (by rw [List.length_append]; show fs.length + 1 ≤ _; omega)
  rw [List.length_append] at h
  have h2 := F_take h (k := n) (by show n ≤ fs.length + 1; omega)
  subst hn
  rwa [List.take_left] at h2
theorem own_at7 {fs : List Fl} {n : Nat} (hn : fs.length = n) {W : World} {g : Nat} (hb : Blk W g ((fs ++ [fl7]).flatMap fcs) 44) :
    W.cell? ⟨g, n * 6, none⟩ = some (.int .u8 0) ∧ W.cell? ⟨g, n * 6 + 1, none⟩ = some (.int .u8 0) ∧ W.cell? ⟨g, n * 6 + 2, none⟩ = some (.int .u8 0) ∧ W.cell? ⟨g, n * 6 + 3, none⟩ = some (.int .u8 0) ∧ W.cell? ⟨g, n * 6 + 4, none⟩ = some (.int .i64 7) ∧ W.cell? ⟨g, n * 6 + 5, none⟩ = some (.int .i64 7) := by
  have e : (fs ++ [fl7])[n]? = some fl7 := by rw [← hn, List.getElem?_append_right (Nat.le_refl _), Nat.sub_self]; rfl
  exact ⟨hb.at_ (flat_fcs_get _ n 0 fl7 _ e rfl), hb.at_ (flat_fcs_get _ n 1 fl7 _ e rfl), hb.at_ (flat_fcs_get _ n 2 fl7 _ e rfl), hb.at_ (flat_fcs_get _ n 3 fl7 _ e rfl), hb.at_ (flat_fcs_get _ n 4 fl7 _ e rfl), hb.at_ (flat_fcs_get _ n 5 fl7 _ e rfl)⟩
theorem own_atI {fs : List Fl} {n : Nat} (hn : fs.length = n) {W : World} {g : Nat} (hb : Blk W g ((fs ++ [fl7]).flatMap fcs) 44) (i : Nat) (hi : i < n) :
    W.cell? ⟨g, i * 6, none⟩ = some (.int .u8 (rdF fs i).k0) ∧ W.cell? ⟨g, i * 6 + 1, none⟩ = some (.int .u8 (rdF fs i).k1) ∧ W.cell? ⟨g, i * 6 + 2, none⟩ = some (.int .u8 (rdF fs i).k2) ∧ W.cell? ⟨g, i * 6 + 3, none⟩ = some (.int .u8 (rdF fs i).k3) ∧ W.cell? ⟨g, i * 6 + 4, none⟩ = some (.int .i64 (rdF fs i).mic) ∧ W.cell? ⟨g, i * 6 + 5, none⟩ = some (.int .i64 (rdF fs i).gr) := by
  have e : (fs ++ [fl7])[i]? = some (rdF fs i) := by
    rw [List.getElem?_append_left (by omega), List.getElem?_eq_getElem (by omega)]
    unfold rdF
    rw [Int.toNat_natCast, List.getD_eq_getElem?_getD, List.getElem?_eq_getElem (by omega)]
    rfl
  exact ⟨hb.at_ (flat_fcs_get _ i 0 _ _ e rfl), hb.at_ (flat_fcs_get _ i 1 _ _ e rfl), hb.at_ (flat_fcs_get _ i 2 _ _ e rfl), hb.at_ (flat_fcs_get _ i 3 _ _ e rfl), hb.at_ (flat_fcs_get _ i 4 _ _ e rfl), hb.at_ (flat_fcs_get _ i 5 _ _ e rfl)⟩
set_option maxHeartbeats 4000000 in
theorem kept_any (w : World) (A : Option Addr) (n c g : Nat) (fs : List Fl) (hn : fs.length = n) (h : kF.C w A n fs) (hn8 : n ≤ 140) (hb : Blk w g ((fs ++ [fl7]).flatMap fcs) 44) :
    Calls Try.prog 25 #[.slice (some ⟨g, 0, none⟩) n (n + 1 : Nat), .slice A n c] w fun e w' => e = .returned (.bool true) ∧ Below w.heap.size w w' := by
  have HN := Aside0.mk hn
  have HH := Aside0.mk h
  have HB := Aside0.mk hb
  have HFS := Aside0.mk fl_same
  clear h hn hb
  go_enter Try.func25, Try.ntmps25
  go_wp2_with fail
  go_loopw [6] (fun v6 wr => ∃ i : Nat, v6 = .int .i64 i ∧ i ≤ n ∧ ∃ q, wr = w.drewN q) (fun v6 _ => n - (intOf v6).toNat)
  case atStart => exact ⟨0, rfl, by omega, 0, rfl⟩
  case round =>
    obtain ⟨i, rfl, hi, q, rfl⟩ := hrel
    by_cases hlt : i < n
    · obtain ⟨ad, rfl, c0, c1, c2, c3, c4, c5⟩ := at_G HH.out i hlt
      obtain ⟨e0, e1, e2, e3, e4, e5⟩ := own_atI HN.out HB.out i hlt
      generalize rdF fs i = f at c0 c1 c2 c3 c4 c5 e0 e1 e2 e3 e4 e5
      obtain ⟨f0, f1, f2, f3, f4, f5⟩ := f
      dsimp only at c0 c1 c2 c3 c4 c5 e0 e1 e2 e3 e4 e5
      have ke : ∀ W, (Op.equalIn 10000 44 (.agg #[.int .u8 f0, .int .u8 f1, .int .u8 f2, .int .u8 f3, .int .i64 f4, .int .i64 f5]) (.agg #[.int .u8 f0, .int .u8 f1, .int .u8 f2, .int .u8 f3, .int .i64 f4, .int .i64 f5])).run Try.prog W = .ok true W := fun W => HFS.out W f0 f1 f2 f3 f4 f5
      go_wp2_with fail
      go_quiet (fail)
      go_wp2_with fail
      go_roundw
      case rel => exact ⟨i + 1, by go_num, by omega, _, rfl⟩
      case measure => simp [intOf]; omega
    · obtain rfl : i = n := by omega
      obtain ⟨e0, e1, e2, e3, e4, e5⟩ := own_at7 HN.out HB.out
      have ke : ∀ W, (Op.equalIn 10000 44 (.agg #[.int .u8 0, .int .u8 0, .int .u8 0, .int .u8 0, .int .i64 7, .int .i64 7]) (.agg #[.int .u8 0, .int .u8 0, .int .u8 0, .int .u8 0, .int .i64 7, .int .i64 7])).run Try.prog W = .ok true W := fun W => HFS.out W 0 0 0 0 7 7
      go_wp2_with fail
      go_ret
      exact ⟨rfl, bdN _ _⟩
end Go.Proofs.Ythkfahkkcjagdaa
namespace Go.Proofs.Ythkfahkkcjagdaa
open Go.RowKit Go.Proofs.YthkfahkkcjagdaaW.PrintWords Go.Proofs.YthkfahkkcjagdaaW.PrintMore Go.Proofs.YthkfahkkcjagdaaW.PrintLast

theorem rowW {w : World} {x : Addr} {len cap : Nat} {zs : List Int} {k : IntKind} (hl : len ≤ cap) (hm : cap ≤ maxLen) (hz : zs.length = cap) (hc : ∀ i, i < zs.length → w.cell? (x.add i) = some (.int k (zs.getD i 0))) : (Kd.int k).C w (some x) len (zs.take len) := by
  refine ⟨by rw [List.length_take]; omega, by unfold maxLen at hm; omega, fun _ => ⟨x, rfl, fun j p hp => ⟨[.int k p], rfl, rfl, fun i u hu => ?_⟩⟩⟩
  have hj : j < len := by
    have := (List.getElem?_eq_some_iff.1 hp).1
    rw [List.length_take] at this
    omega
  rw [List.getElem?_take, if_pos hj] at hp
  have h1 := hc j (by omega)
  rw [List.getD_eq_getElem?_getD, hp] at h1
  have hi : i = 0 := by
    have := (List.getElem?_eq_some_iff.1 hu).1
    simpa using this
  subst hi
  rw [List.getElem?_cons_zero] at hu
  cases hu
  show w.cell? (x.add (j * 1 + 0)) = _
  rw [Nat.mul_one, Nat.add_zero]
  exact h1
set_option maxHeartbeats 8000000 in
set_option maxRecDepth 100000 in
theorem costs9_any (w : World) (A B : Option Addr) (n c m cb : Nat) (fs : List Fl) (ls : List Int) (hn : fs.length = n) (h : kF.C w A n fs) (hk : KOK fs) (hr : (Kd.int .i64).C w B m ls) (l least p price : Int) :
    Calls Try.prog 9 #[.slice A n c, .agg #[.int .i64 l, .int .i64 least, .int .i64 p], .slice B m cb, .int .i64 price] w fun e w' => e = .returned (.bool true) ∧ Below w.heap.size w w' := by
  have hmax := Kd.C_max h
  have hmaxm := Kd.C_max hr
  have b1 := below_alloc (Below.refl w.heap.size w) (.cells #[.int .i64 l, .int .i64 least, .int .i64 p] 24)
  have q1 := Blk.new w [.int .i64 l, .int .i64 least, .int .i64 p] 24
  have HFW := Aside0.mk (fun W => few_any W A n c hmax)
  have HAL := Aside0.mk alive_any
  have HC := Aside0.mk (And.intro hk (And.intro hn (Kd.C_len hr)))
  have H1 := Aside0.mk (And.intro b1 (And.intro q1 (And.intro (Kd.C_below h b1) (Kd.C_below hr b1))))
  clear h hk hn b1 q1 hr
  by_cases h140 : (n : Int) ≤ 140
  · have hd : decide ((n : Int) ≤ 140) = true := decide_eq_true h140
    rw [hd] at HFW
    by_cases h300 : (m : Int) > 300
    · have hd3 : decide ((m : Int) > 300) = true := decide_eq_true h300
      have hd4 : decide (300 < (m : Int)) = true := decide_eq_true h300
      go_enter Try.func9, Try.ntmps9
      go_wp2_with (first | ((with_reducible refine (HFW.out _).mono ?_); rintro e5 w5 ⟨rfl, rfl⟩) | ((with_reducible refine (HAL.out _).mono ?_); rintro e6 w6 ⟨rfl, hb6⟩; have HB6 := Aside0.mk (below_step H1.out.1 hb6); clear hb6))
      go_ret
      exact ⟨rfl, HB6.out⟩
    · have hd3 : decide ((m : Int) > 300) = false := decide_eq_false h300
      have hd4 : decide (300 < (m : Int)) = false := decide_eq_false h300
      obtain ⟨o, ho⟩ : ∃ z, z = (costR fs l least p ls).1 := ⟨_, rfl⟩
      obtain ⟨f, hf⟩ : ∃ z, z = (costR fs l least p ls).2 := ⟨_, rfl⟩
      obtain ⟨o2, ho2⟩ : ∃ z, z = (priceR fs l least p price).1 := ⟨_, rfl⟩
      obtain ⟨f2, hf2⟩ : ∃ z, z = (priceR fs l least p price).2 := ⟨_, rfl⟩
      have HEQ := Aside0.mk (And.intro ho (And.intro hf (And.intro ho2 hf2)))
      clear ho hf ho2 hf2
      have HOW := Aside0.mk (own_any (w.alloc (.cells #[.int .i64 l, .int .i64 least, .int .i64 p] 24)) A n c fs HC.out.2.1 H1.out.2.2.1 (by omega))
      have HS7 : Aside0 (∀ (W : World) (g : Nat), Blk W g ((fs ++ [fl7]).flatMap fcs) 44 → kF.C W (some ⟨g, 0, none⟩) n fs) := ⟨fun W g hb => own_C HC.out.2.1 (by omega) hb⟩
      go_enter Try.func9, Try.ntmps9
      go_upto_region 3 with ((with_reducible refine (HFW.out _).mono ?_); rintro e5 w5 ⟨rfl, rfl⟩)
      generalize w.alloc (.cells #[.int .i64 l, .int .i64 least, .int .i64 p] 24) = w1 at H1 HOW ⊢
      go_upto_region 4 with ((with_reducible refine HOW.out.mono ?_); rintro e6 w6 ⟨rfl, hq6, hb6⟩; have H6 := Aside0.mk (And.intro (below_step H1.out.1 hb6) (And.intro (H1.out.2.1.below hb6) (And.intro (Kd.C_below H1.out.2.2.1 hb6) (And.intro (Kd.C_below H1.out.2.2.2 hb6) hq6)))); clear hb6 hq6)
      obtain ⟨g, hg⟩ : ∃ z, z = w1.heap.size := ⟨_, rfl⟩
      rw [← hg] at H6 ⊢
      clear hg
      have s0 := H6.out.2.1.at_ (i := 0) rfl
      have s1 := H6.out.2.1.at_ (i := 1) rfl
      have s2 := H6.out.2.1.at_ (i := 2) rfl
      have hco := cost_any w6 (some ⟨g, 0, none⟩) B n (n + 1) m cb fs ls HC.out.2.1 (HS7.out _ _ H6.out.2.2.2.2) HC.out.1 H6.out.2.2.2.1 l least p
      rw [← HEQ.out.1, ← HEQ.out.2.1] at hco
      have HCO := Aside0.mk hco
      clear hco
      go_upto_region 5 with ((with_reducible refine HCO.out.mono ?_); rintro e7 w7 ⟨rfl, hb7⟩; have H7 := Aside0.mk (And.intro (below_step H6.out.1 hb7) (And.intro (H6.out.2.1.below hb7) (And.intro (Kd.C_below H6.out.2.2.1 hb7) (And.intro (Kd.C_below H6.out.2.2.2.1 hb7) (H6.out.2.2.2.2.below hb7))))); clear hb7)
      clear s0 s1 s2
      have s0 := H7.out.2.1.at_ (i := 0) rfl
      have s1 := H7.out.2.1.at_ (i := 1) rfl
      have s2 := H7.out.2.1.at_ (i := 2) rfl
      have hrc := rcost_any w7 A B n c m cb fs ls HC.out.2.1 H7.out.2.2.1 HC.out.1 H7.out.2.2.2.1 l least p
      rw [← HEQ.out.1, ← HEQ.out.2.1] at hrc
      have HRC := Aside0.mk hrc
      clear hrc
      go_upto_region 6 with ((with_reducible refine HRC.out.mono ?_); rintro e8 w8 ⟨rfl, hb8⟩; have H8 := Aside0.mk (And.intro (below_step H7.out.1 hb8) (And.intro (H7.out.2.1.below hb8) (And.intro (Kd.C_below H7.out.2.2.1 hb8) (And.intro (Kd.C_below H7.out.2.2.2.1 hb8) (H7.out.2.2.2.2.below hb8))))); clear hb8)
      clear s0 s1 s2
      have s0 := H8.out.2.1.at_ (i := 0) rfl
      have s1 := H8.out.2.1.at_ (i := 1) rfl
      have s2 := H8.out.2.1.at_ (i := 2) rfl
      have hpr := price_any w8 (some ⟨g, 0, none⟩) n (n + 1) fs HC.out.2.1 (HS7.out _ _ H8.out.2.2.2.2) HC.out.1 l least p price
      rw [← HEQ.out.2.2.1, ← HEQ.out.2.2.2] at hpr
      have HPR := Aside0.mk hpr
      clear hpr
      go_upto_region 7 with ((with_reducible refine HPR.out.mono ?_); rintro e9 w9 ⟨rfl, hb9⟩; have H9 := Aside0.mk (And.intro (below_step H8.out.1 hb9) (And.intro (H8.out.2.1.below hb9) (And.intro (Kd.C_below H8.out.2.2.1 hb9) (And.intro (Kd.C_below H8.out.2.2.2.1 hb9) (H8.out.2.2.2.2.below hb9))))); clear hb9)
      clear s0 s1 s2
      have s0 := H9.out.2.1.at_ (i := 0) rfl
      have s1 := H9.out.2.1.at_ (i := 1) rfl
      have s2 := H9.out.2.1.at_ (i := 2) rfl
      have hrp := rprice_any w9 A n c fs HC.out.2.1 H9.out.2.2.1 HC.out.1 l least p price
      rw [← HEQ.out.2.2.1, ← HEQ.out.2.2.2] at hrp
      have HRP := Aside0.mk hrp
      clear hrp
      go_upto_region 8 with ((with_reducible refine HRP.out.mono ?_); rintro e10 w10 ⟨rfl, hb10⟩; have H10 := Aside0.mk (And.intro (below_step H9.out.1 hb10) (And.intro (Kd.C_below H9.out.2.2.1 hb10) (H9.out.2.2.2.2.below hb10))); clear hb10)
      clear s0 s1 s2
      have HKE := Aside0.mk (kept_any w10 A n c g fs HC.out.2.1 H10.out.2.1 (by omega) H10.out.2.2)
      go_wp2_with (first | ((with_reducible refine HKE.out.mono ?_); rintro e11 w11 ⟨rfl, hb11⟩; have HB11 := Aside0.mk (below_step H10.out.1 hb11); clear hb11) | ((with_reducible refine (HAL.out _).mono ?_); rintro e20 w20 ⟨rfl, hb20⟩; have HB20 := Aside0.mk (below_step HB11.out hb20); clear hb20))
      go_ret
      exact ⟨rfl, HB20.out⟩
  · have hd : decide ((n : Int) ≤ 140) = false := decide_eq_false h140
    rw [hd] at HFW
    go_enter Try.func9, Try.ntmps9
    go_wp2_with (first | ((with_reducible refine (HFW.out _).mono ?_); rintro e5 w5 ⟨rfl, rfl⟩) | ((with_reducible refine (HAL.out _).mono ?_); rintro e6 w6 ⟨rfl, hb6⟩; have HB6 := Aside0.mk (below_step H1.out.1 hb6); clear hb6))
    go_ret
    exact ⟨rfl, HB6.out⟩
end Go.Proofs.Ythkfahkkcjagdaa
