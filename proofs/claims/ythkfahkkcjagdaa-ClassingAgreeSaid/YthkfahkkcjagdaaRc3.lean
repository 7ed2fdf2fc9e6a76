/- The reference's line of a run of fleeces: its walk. Printed by gen_rl.py. -/
import Derived.Test.YthkfahkkcjagdaaRc2
import Derived.Test.YthkfahkkcjagdaaC14
import Derived.Test.YthkfahkkcjagdaaC0
import Derived.Test.YthkfahkkcjagdaaWGuard
namespace Go.Proofs.Ythkfahkkcjagdaa
open Go.RowKit Go.Proofs.YthkfahkkcjagdaaW.PrintWords Go.Proofs.YthkfahkkcjagdaaW.PrintMore Go.Proofs.YthkfahkkcjagdaaW.PrintLast
set_option linter.unusedSimpArgs false
set_option linter.unusedVariables false

/-- An operation that yields a value, run. -/
theorem build_ {P : Program} {ops : Array Oper} {Q : Exit → Act → World → Prop} {oi : Oper} {N : Option Tmp} {v : Value} {a : Act} {w w1 : World} {K : Act → World → Prop} (hw : Region.wanted oi (yielded ops a.tmps) = true) (hN : oi.dst = N) (hrun : (execOp a.eval oi).run P w = .ok (.value v) w1)
    (h : K (a.put N v) w1) : if Region.wanted oi (yielded ops a.tmps) = true then Oper.wp P oi a w K Q else K (a.put N undef) w := by
  rw [if_pos hw]
  unfold Oper.wp
  rw [hrun]
  show K (a.put oi.dst v) w1
  rw [hN]
  exact h
def z37 : List Value := [.int .u8 0, .int .u8 0, .int .u8 0, .int .u8 0, .slice none 0 0, .int .i64 0, .int .i64 0, .int .i64 0]
def x37 (k0 k1 k2 k3 : Int) (v : Value) (ma ce co : Int) : List Value := [.int .u8 k0, .int .u8 k1, .int .u8 k2, .int .u8 k3, v, .int .i64 ma, .int .i64 ce, .int .i64 co]
/-- The line under way, in memory. -/
structure XM (w wr : World) (bx br b9 : Nat) (k0 k1 k2 k3 : Int) (v : Value) (row : List Int) (ma ce co l least p : Int) : Prop where
  b : Below w.heap.size w wr
  x : Blk wr bx (x37 k0 k1 k2 k3 v ma ce co) 37
  r : Blk wr br z37 37
  p : Blk wr b9 [.int .i64 l, .int .i64 least, .int .i64 p] 24
  v : (Kd.int .i64).R 3 wr w.heap.size (fun _ => True) v row
  hx : w.heap.size ≤ bx
  hr : w.heap.size ≤ br
  ne : br ≠ bx
section
variable {w wr : World} {bx br b9 : Nat} {k0 k1 k2 k3 : Int} {v : Value} {row : List Int} {ma ce co l least p : Int}
theorem t37 : ∀ q, q ∈ 3 :: (Kd.int .i64).E → q ≠ 37 := by intro q h; simp [Kd.int, Kd.scalar] at h; omega
theorem XM.set (h : XM w wr bx br b9 k0 k1 k2 k3 v row ma ce co l least p) (i : Nat) (u : Value) {ma' ce' co' : Int} (hu : (x37 k0 k1 k2 k3 v ma ce co).set i u = x37 k0 k1 k2 k3 v ma' ce' co') : XM w (wr.setCell ⟨bx, i, none⟩ u) bx br b9 k0 k1 k2 k3 v row ma' ce' co' l least p :=
  ⟨h.b.setCell h.hx _, by have := h.x.set i u; rwa [hu] at this, h.r.far h.ne _, h.p.far (h.p.ne_of_type h.x (by decide)) _, Kd.R_set h.v h.x t37 i u, h.hx, h.hr, h.ne⟩
theorem XM.drew (h : XM w wr bx br b9 k0 k1 k2 k3 v row ma ce co l least p) : XM w wr.drew bx br b9 k0 k1 k2 k3 v row ma ce co l least p :=
  ⟨below_drew h.b, h.x.drew, h.r.drew, h.p.drew, Kd.R_drew h.v, h.hx, h.hr, h.ne⟩
theorem XM.drewN (h : XM w wr bx br b9 k0 k1 k2 k3 v row ma ce co l least p) (q : Nat) : XM w (wr.drewN q) bx br b9 k0 k1 k2 k3 v row ma ce co l least p :=
  ⟨below_step h.b (bdN _ _), h.x.drewN q, h.r.drewN q, h.p.drewN q, Kd.R_drewN h.v q, h.hx, h.hr, h.ne⟩
theorem XM.app (h : XM w wr bx br b9 k0 k1 k2 k3 v row ma ce co l least p) {w1 : World} {v1 : Value} {x : Int} (ho : (Kd.int .i64).R 3 w1 w.heap.size (fun _ => True) v1 (row ++ [x])) (hb : Below w.heap.size w w1) (hg : wr.grownBy w1 v.ownBlock) (j : Nat) (hj : j = 4) :
    XM w (w1.setCell ⟨bx, j, none⟩ v1) bx br b9 k0 k1 k2 k3 v1 (row ++ [x]) ma ce co l least p := by
  subst hj
  have hx : Blk w1 bx (x37 k0 k1 k2 k3 v ma ce co) 37 := (hg.block bx h.x.lt (Kd.R_ne h.v h.x (by decide))).trans h.x
  have hr : Blk w1 br z37 37 := (hg.block br h.r.lt (Kd.R_ne h.v h.r (by decide))).trans h.r
  have hp : Blk w1 b9 _ 24 := (hg.block b9 h.p.lt (Kd.R_ne h.v h.p (by decide))).trans h.p
  exact ⟨hb.setCell h.hx _, hx.set 4 v1, hr.far h.ne _, hp.far (hp.ne_of_type hx (by decide)) _, Kd.R_set ho hx t37 4 v1, h.hx, h.hr, h.ne⟩
end
/-- What the line answers. -/
def RLPost (w : World) (s : Nat → Fl) (ord : List Int) (least p : Int) (i d : Nat) (e : Ending) (w' : World) : Prop :=
  Below w.heap.size w w' ∧ match cO s least p i d with
  | none => e = .returned (.tuple #[.agg z37.toArray, .bool false])
  | some co => ∃ v, e = .returned (.tuple #[.agg (x37 (s i).k0 (s i).k1 (s i).k2 (s i).k3 v (massD s i d) (cen s i d) co).toArray, .bool true]) ∧ (Kd.int .i64).R 3 w' w.heap.size (fun _ => True) v ((ord.drop i).take d)
theorem okR_all {s : Nat → Fl} {n : Nat} {p : Int} (hs : SRT s n) {i : Nat} : ∀ d, i + d ≤ n → (∀ q, q < d → sameK (s i) (s (i + q)) = true) → (0 < d → (s (i + d - 1)).mic - (s i).mic ≤ p) → okR s p i d = true
  | 0, _, _, _ => rfl
  | d + 1, hd, hk, hp => by
    unfold okR
    have h1 := hp (by omega)
    rw [show i + (d + 1) - 1 = i + d by omega] at h1
    rw [okR_all hs d (by omega) (fun q hq => hk q (by omega)) (fun h0 => by
      refine Int.le_trans ?_ h1
      have h2 := sameK_trans (hk (d - 1) (by omega)) (hk d (by omega))
      rw [show i + (d - 1) = i + d - 1 by omega] at h2
      have := hs (i + d - 1) (i + d) (by omega) (by omega) h2
      omega), hk d (by omega), decide_eq_true h1]
    rfl
theorem run_take {ord : List Int} {i m : Nat} (h : i + m < ord.length) : (ord.drop i).take (m + 1) = (ord.drop i).take m ++ [ord.getD (i + m) 0] := by
  rw [List.take_succ_eq_append_getElem (by rw [List.length_drop]; omega)]
  congr 2
  rw [List.getElem_drop, List.getD_eq_getElem?_getD, List.getElem?_eq_getElem h]
  rfl
theorem info3r : (Try.prog.info? 3).map (fun i => (i.zero, i.size, i.bytes)) = some (some (.int .i64 0), (Kd.int .i64).sz, 8) := by kernel_rfl

set_option maxHeartbeats 16000000 in
set_option maxRecDepth 100000 in
theorem rline_any (w : World) (A B : Option Addr) (n c cb : Nat) (fs : List Fl) (hn : fs.length = n) (h : kF.C w A n fs) (hk : KOK fs) (hB : (Kd.int .i64).C w B n (ordF fs)) (l least p : Int) (hE : fs.all flOK = true) (hn8 : n ≤ 128) (hls : 0 ≤ least ∧ least ≤ 1073741824) (hp : 0 ≤ p ∧ p ≤ 10000) (i d : Nat) (hd : 0 < d) (hid : i + d ≤ n) (j : Int) (hj : j = i + d) :
    Calls Try.prog 68 #[.slice A n c, .slice B n cb, .int .i64 i, .int .i64 j, .agg #[.int .i64 l, .int .i64 least, .int .i64 p]] w (RLPost w (sF fs (ordF fs)) (ordF fs) least p i d) := by
  subst hj
  have HSO := Aside0.mk (And.intro (ordF_SOK hE) (ordF_sorted hk))
  rw [hn] at HSO
  have hol := ordF_length fs
  rw [hn] at hol
  have HOM := Aside0.mk (fun (m : Nat) (hm : m < n) => by
    have := ordF_mem (getD_mem (l := ordF fs) (i := m) (by rw [hol]; exact hm))
    rwa [hn] at this : ∀ m : Nat, m < n → 0 ≤ (ordF fs).getD m 0 ∧ (ordF fs).getD m 0 < n)
  have HOL := Aside0.mk hol
  obtain ⟨s, hs⟩ : ∃ z, z = sF fs (ordF fs) := ⟨_, rfl⟩
  rw [← hs] at HSO ⊢
  have HS := Aside0.mk (show ∀ m : Nat, s m = rdF fs ((ordF fs).getD m 0) from fun m => by rw [hs]; rfl)
  obtain ⟨ord, hor⟩ : ∃ z, z = ordF fs := ⟨_, rfl⟩
  rw [← hor] at HOM HOL HS hB ⊢
  have HC := Aside0.mk (And.intro h (And.intro hB hk))
  -- a fleece of the order, read
  have HRD : Aside0 (∀ (W : World), Below w.heap.size w W → ∀ m : Nat, m < n → ∃ (adB ad : Addr) (x : Nat), B = some adB ∧ A = some ad ∧ x < n ∧ ord.getD m 0 = x ∧ W.cell? (adB.add m) = some (.int .i64 x) ∧
      W.cell? (ad.add (x * 6)) = some (.int .u8 (s m).k0) ∧ W.cell? ⟨(ad.add (x * 6)).block, (ad.add (x * 6)).off + 1, none⟩ = some (.int .u8 (s m).k1) ∧ W.cell? ⟨(ad.add (x * 6)).block, (ad.add (x * 6)).off + 2, none⟩ = some (.int .u8 (s m).k2) ∧ W.cell? ⟨(ad.add (x * 6)).block, (ad.add (x * 6)).off + 3, none⟩ = some (.int .u8 (s m).k3) ∧ W.cell? ⟨(ad.add (x * 6)).block, (ad.add (x * 6)).off + 4, none⟩ = some (.int .i64 (s m).mic) ∧ W.cell? ⟨(ad.add (x * 6)).block, (ad.add (x * 6)).off + 5, none⟩ = some (.int .i64 (s m).gr)) := ⟨fun W hW m hm => by
    obtain ⟨adB, e1, g⟩ := Kd.at_int (Kd.C_below HC.out.2.1 hW) (m : Int) (by omega) (by omega)
    rw [Int.toNat_natCast] at g
    have hx := HOM.out m hm
    have hrd : rd ord (m : Int) = ord.getD m 0 := by unfold rd; rw [Int.toNat_natCast]
    rw [hrd] at g
    obtain ⟨ad, e2, g0, g1, g2, g3, g4, g5⟩ := at_F (Kd.C_below HC.out.1 hW) (ord.getD m 0) hx.1 hx.2
    rw [← HS.out m] at g0 g1 g2 g3 g4 g5
    refine ⟨adB, ad, (ord.getD m 0).toNat, e1, e2, by omega, by omega, by rw [Int.toNat_of_nonneg hx.1]; exact g, g0, g1, g2, g3, g4, g5⟩⟩
  have b1 := below_alloc (below_alloc (Below.refl w.heap.size w) (.cells #[.int .i64 l, .int .i64 least, .int .i64 p] 24)) (.cells z37.toArray 37)
  have q1 := (Blk.new w [.int .i64 l, .int .i64 least, .int .i64 p] 24).alloc (.cells z37.toArray 37)
  have q2 := Blk.new (w.alloc (.cells #[.int .i64 l, .int .i64 least, .int .i64 p] 24)) z37 37
  have e1 : (w.alloc (.cells #[.int .i64 l, .int .i64 least, .int .i64 p] 24)).heap.size = w.heap.size + 1 := by simp
  rw [e1] at q2
  have H1 := Aside0.mk (And.intro b1 (And.intro q1 q2))
  have hij : ¬ (i : Int) ≥ (i : Int) + d := by omega
  have dij : decide ((i : Int) ≥ (i : Int) + d) = false := decide_eq_false hij
  have dij2 : decide ((i : Int) + d ≤ (i : Int)) = false := decide_eq_false hij
  clear h hk hB b1 q1 q2 e1 hs hor hn hol hE
  go_enter Try.func68, Try.ntmps68
  go_upto_region 3 with fail
  change Code.wp _ _ _ _ ((w.alloc (.cells #[.int .i64 l, .int .i64 least, .int .i64 p] 24)).alloc (.cells z37.toArray 37))
  generalize ((w.alloc (.cells #[.int .i64 l, .int .i64 least, .int .i64 p] 24)).alloc (.cells z37.toArray 37)) = w1 at H1 ⊢
  obtain ⟨adB, ad, x, rfl, rfl, hx, hxo, gB, g0, g1, g2, g3, g4, g5⟩ := HRD.out w1 H1.out.1 i (by omega)
  have hxi : (x : Int) < n := by omega
  have hii : (i : Int) < n := by omega
  have hii2 : i < n := by omega
  go_upto_region 4 with fail
  have hX : XM w (w1.alloc (.cells (x37 (s i).k0 (s i).k1 (s i).k2 (s i).k3 (.slice none 0 0) 0 0 0).toArray 37)) w1.heap.size (w.heap.size + 1) w.heap.size (s i).k0 (s i).k1 (s i).k2 (s i).k3 (.slice none 0 0) [] 0 0 0 l least p :=
    ⟨below_alloc H1.out.1 _, Blk.new w1 _ 37, H1.out.2.2.alloc _, H1.out.2.1.alloc _, Kd.R_nil _ _ _ _ _, H1.out.1.size, Nat.le_succ _, by have := H1.out.2.2.lt; omega⟩
  change Code.wp _ _ _ _ (w1.alloc (.cells (x37 (s i).k0 (s i).k1 (s i).k2 (s i).k3 (.slice none 0 0) 0 0 0).toArray 37))
  generalize (w1.alloc (.cells (x37 (s i).k0 (s i).k1 (s i).k2 (s i).k3 (.slice none 0 0) 0 0 0).toArray 37)) = w2 at hX ⊢
  obtain ⟨bx, hbx⟩ : ∃ z, z = w1.heap.size := ⟨_, rfl⟩
  obtain ⟨br, hbr⟩ : ∃ z, z = w.heap.size + 1 := ⟨_, rfl⟩
  obtain ⟨b9, hb9⟩ : ∃ z, z = w.heap.size := ⟨_, rfl⟩
  rw [← hbx, ← hbr] at hX ⊢
  have hX' : XM w w2 bx br b9 (s i).k0 (s i).k1 (s i).k2 (s i).k3 (.slice none 0 0) [] 0 0 0 l least p := by rw [hb9]; exact hX
  rw [← hb9]
  have HX0 := Aside0.mk hX'
  clear hX hX' hbx hbr hb9 gB g0 g1 g2 g3 g4 g5 dij dij2 hij H1 hx hxo hxi
  obtain ⟨k0, hk0⟩ : ∃ z, z = (s i).k0 := ⟨_, rfl⟩
  obtain ⟨k1, hk1⟩ : ∃ z, z = (s i).k1 := ⟨_, rfl⟩
  obtain ⟨k2, hk2⟩ : ∃ z, z = (s i).k2 := ⟨_, rfl⟩
  obtain ⟨k3, hk3⟩ : ∃ z, z = (s i).k3 := ⟨_, rfl⟩
  rw [← hk0, ← hk1, ← hk2, ← hk3] at HX0 ⊢
  have HK := Aside0.mk (And.intro hk0 (And.intro hk1 (And.intro hk2 hk3))); clear hk0 hk1 hk2 hk3
  have HSK : Aside0 (∀ f : Fl, sameK (s i) f = decide (f.k0 = k0 ∧ f.k1 = k1 ∧ f.k2 = k2 ∧ f.k3 = k3)) := ⟨fun f => by
    unfold sameK
    rw [HK.out.1, HK.out.2.1, HK.out.2.2.1, HK.out.2.2.2]
    exact decide_eq_decide.2 (by omega)⟩
  go_wp2_with fail
  go_loopw [13] (fun v13 wr => ∃ (m : Nat) (v : Value), v13 = .int .i64 ((i : Int) + m) ∧ m ≤ d ∧ Aside0 ((∀ q, q < m → sameK (s i) (s (i + q)) = true) ∧ XM w wr bx br b9 k0 k1 k2 k3 v ((ord.drop i).take m) (massD s i m) 0 0 l least p)) (fun v13 _ => ((i : Int) + d - intOf v13).toNat)
  case atStart => exact ⟨0, .slice none 0 0, by go_num, by omega, ⟨fun q hq => by omega, HX0.out⟩⟩
  case round =>
    obtain ⟨m, v, rfl, hm, HM⟩ := hrel
    clear HX0
    by_cases hlt : m < d
    · have hlti : (i : Int) + m < (i : Int) + d := by omega
      have him : i + m < n := by omega
      have himi : (i : Int) + m < n := by omega
      have him0 : (0 : Int) ≤ (i : Int) + m := by omega
      have himt : ((i : Int) + m).toNat = i + m := by omega
      obtain ⟨aB, aA, x, e1, e2, hx, hxo, gB, g0, g1, g2, g3, g4, g5⟩ := HRD.out wr HM.out.2.b (i + m) him
      cases e1
      cases e2
      have hxi : (x : Int) < n := by omega
      have c0 := HM.out.2.x.at_ (i := 0) rfl
      have c1 := HM.out.2.x.at_ (i := 1) rfl
      have c2 := HM.out.2.x.at_ (i := 2) rfl
      have c3 := HM.out.2.x.at_ (i := 3) rfl
      have hmb := massD_bd HSO.out.1 i m (by omega)
      have hgr := (HSO.out.1 (i + m) (by omega)).2
      have HKS := HSK.out (s (i + m))
      obtain ⟨y0, hy0⟩ : ∃ z, z = (s (i + m)).k0 := ⟨_, rfl⟩
      obtain ⟨y1, hy1⟩ : ∃ z, z = (s (i + m)).k1 := ⟨_, rfl⟩
      obtain ⟨y2, hy2⟩ : ∃ z, z = (s (i + m)).k2 := ⟨_, rfl⟩
      obtain ⟨y3, hy3⟩ : ∃ z, z = (s (i + m)).k3 := ⟨_, rfl⟩
      rw [← hy0, ← hy1, ← hy2, ← hy3] at HKS
      rw [← hy0] at g0
      rw [← hy1] at g1
      rw [← hy2] at g2
      rw [← hy3] at g3
      have HKS := Aside0.mk HKS
      clear hy0 hy1 hy2 hy3
      obtain ⟨M, hM⟩ : ∃ z, z = massD s i m := ⟨_, rfl⟩
      obtain ⟨gr, hgg⟩ : ∃ z, z = (s (i + m)).gr := ⟨_, rfl⟩
      rw [← hM] at hmb HM
      rw [← hgg] at hgr g5
      have HMN : Aside0 (massD s i (m + 1) = M + gr) := ⟨by rw [hM, hgg]; rfl⟩
      have HXO : Aside0 (ord.getD (i + m) 0 = x) := ⟨hxo⟩
      have HGG := Aside0.mk hgg
      obtain ⟨hm0, hm1⟩ := hmb
      obtain ⟨hgr0, hgr1⟩ := hgr
      clear hM hgg hxo g4
      by_cases hke : y0 = k0 ∧ y1 = k1 ∧ y2 = k2 ∧ y3 = k3
      · have ke : ∀ W, (Op.equalIn 10000 34 (.agg #[.int .u8 y0, .int .u8 y1, .int .u8 y2, .int .u8 y3]) (.agg #[.int .u8 k0, .int .u8 k1, .int .u8 k2, .int .u8 k3])).run Try.prog W = .ok true W := fun W => by rw [kind_eql, decide_eq_true hke]
        have HSM : Aside0 (∀ q, q < m + 1 → sameK (s i) (s (i + q)) = true) := ⟨fun q hq => by
          rcases (show q < m ∨ q = m by omega) with h | rfl
          · exact HM.out.1 q h
          · rw [HKS.out]; exact decide_eq_true hke⟩
        clear hke HKS
        go_upto_region 7 with fail
        go_quiet (fail)
        clear ke c0 c1 c2 c3 g0 g1 g2 g3
        go_upto_region 9 with fail
        have HMQ := Aside0.mk (HM.out.2.drewN nq)
        have hBQ := HRD.out _ HMQ.out.b (i + m) him
        generalize wr.drewN nq = wq at HMQ hBQ ⊢
        obtain ⟨aBq, aAq, xq, e1, e2, _, hxoq, gBQ, _⟩ := hBQ
        cases e1
        cases e2
        rw [HXO.out] at hxoq
        obtain rfl : x = xq := by omega
        clear hxoq
        have HMD := Aside0.mk HMQ.out.drew
        have gBD : wq.drew.cell? (adB.add (i + m)) = some (.int .i64 x) := gBQ
        refine start_ (n := 10) (S := (fun W_ => W_.cell? ⟨bx, 4, none⟩ = some v ∧ W_.cell? (adB.add (i + m)) = some (.int .i64 x))) (ds := [9]) #[false, false, false, false, false, false, false, false, false, false] (by kernel_rfl) rfl rfl (⟨HMD.out.x.at_ (i := 4) rfl, gBD⟩) (fun hHeld => ?_)
        refine pure_ (i := 0) (N := some 49) (v := ?_) (a' := ?_) #[true, false, false, false, false, false, false, false, false, false] rfl rfl (by kernel_rfl) (fun _ _ _ h => h) (Or.inl ⟨by rfl, ?_⟩) ?_ ?_
        rotate_left
        · intro w'
          go_simp
          with_reducible rfl
        rotate_left
        · simp only [Act.put, List.setIfInBounds_toArray, List.set_cons_zero, List.set_cons_succ, i64_w, i32_w]
          rfl
        refine take_ (i := 1) (N := some 50) (v := ?_) (a' := ?_) #[true, true, false, false, false, false, false, false, false, false] rfl rfl (by kernel_rfl) (fun _ _ _ h => h) (Or.inl ⟨by rfl, ?_⟩) hHeld ?_ ?_
        rotate_left
        · rintro w' ⟨s0, s1⟩
          go_simp
          with_reducible rfl
        rotate_left
        · simp only [Act.put, List.setIfInBounds_toArray, List.set_cons_zero, List.set_cons_succ, i64_w, i32_w]
          rfl
        refine pure_ (i := 2) (N := some 51) (v := ?_) (a' := ?_) #[true, true, true, false, false, false, false, false, false, false] rfl rfl (by kernel_rfl) (fun _ _ _ h => h) (Or.inl ⟨by rfl, ?_⟩) ?_ ?_
        rotate_left
        · intro w'
          go_simp
          with_reducible rfl
        rotate_left
        · simp only [Act.put, List.setIfInBounds_toArray, List.set_cons_zero, List.set_cons_succ, i64_w, i32_w]
          rfl
        refine pure_ (i := 3) (N := some 52) (v := ?_) (a' := ?_) #[true, true, true, true, false, false, false, false, false, false] rfl rfl (by kernel_rfl) (fun _ _ _ h => h) (Or.inl ⟨by rfl, ?_⟩) ?_ ?_
        rotate_left
        · intro w'
          go_simp
          with_reducible rfl
        rotate_left
        · simp only [Act.put, List.setIfInBounds_toArray, List.set_cons_zero, List.set_cons_succ, i64_w, i32_w]
          rfl
        refine pure_ (i := 4) (N := some 53) (v := ?_) (a' := ?_) #[true, true, true, true, true, false, false, false, false, false] rfl rfl (by kernel_rfl) (fun _ _ _ h => h) (Or.inl ⟨by rfl, ?_⟩) ?_ ?_
        rotate_left
        · intro w'
          go_simp
          with_reducible rfl
        rotate_left
        · simp only [Act.put, List.setIfInBounds_toArray, List.set_cons_zero, List.set_cons_succ, i64_w, i32_w]
          rfl
        refine take_ (i := 5) (N := some 54) (v := ?_) (a' := ?_) #[true, true, true, true, true, true, false, false, false, false] rfl rfl (by kernel_rfl) (fun _ _ _ h => h) (Or.inl ⟨by rfl, ?_⟩) hHeld ?_ ?_
        rotate_left
        · rintro w' ⟨s0, s1⟩
          go_simp
          with_reducible rfl
        rotate_left
        · simp only [Act.put, List.setIfInBounds_toArray, List.set_cons_zero, List.set_cons_succ, i64_w, i32_w]
          rfl
        refine one_ (i := 6) (N := some 55) #[true, true, true, true, true, true, true, false, false, false] rfl rfl (by kernel_rfl) (by decide) (fun K hK => ?_)
        refine build_ (v := .slice (some ⟨wq.drew.heap.size, 0, none⟩) 1 1) (w1 := wq.drew.alloc (.cells #[.int .i64 (x : Int)] 3)) (by rfl) rfl ?_ ?_
        · go_simp
          first | done | exact ⟨rfl, rfl⟩ | rfl
        refine hK.out _ _ (⟨(HMD.out.x.alloc _).at_ (i := 4) rfl, cell_keep (below_alloc (Below.refl _ _) _) gBD⟩) (fun hHeld => ?_)
        clear hK K
        refine norm_ (a' := ?_) ?_ ?_
        rotate_left
        · show Act.put _ (some 55) _ = _
          simp only [Act.put, List.setIfInBounds_toArray, List.set_cons_zero, List.set_cons_succ, i64_w, i32_w]
          rfl
        refine one_ (i := 7) (N := some 56) #[true, true, true, true, true, true, true, true, false, false] rfl rfl (by kernel_rfl) (by decide) (fun K hK => ?_)
        refine Kd.R_append_step (Kd.int .i64) (w0 := w) w.heap.size (by rfl) (.tmp 50) (.tmp 55) 35 3 (.int .i64 0) 8 (by rfl) Try.underlying35 info3r rfl (by decide) (by decide) v ((ord.drop i).take m) (x : Int) [.int .i64 (x : Int)] (fun _ => True) (fun _ => False) (by rfl) (by rfl) rfl (fun _ hk => hk.elim) (fun _ _ => trivial) HMD.out.v HMD.out.b HMD.out.b.size (by rw [List.length_take, List.length_drop]; omega) ?_
        intro v6 w6 ho hb hg hat
        obtain ⟨A6, c6, hv6⟩ := Kd.R_slice ho
        rw [show ((ord.drop i).take m ++ [(x : Int)]).length = m + 1 by rw [List.length_append, List.length_take, List.length_drop, HOL.out]; simp; omega] at hv6
        subst hv6
        have H6 := Aside0.mk (And.intro HMD.out (And.intro ho (And.intro hb hg)))
        clear ho hb hg hat
        obtain ⟨aB6, aA6, x6, e16, e26, _, hxo6, gB6, _⟩ := HRD.out w6 H6.out.2.2.1 (i + m) him
        cases e16
        cases e26
        rw [HXO.out] at hxo6
        obtain rfl : x = x6 := by omega
        clear hxo6
        refine hK.out _ _ (⟨(show Blk w6 bx _ 37 from (H6.out.2.2.2.block bx H6.out.1.x.lt (Kd.R_ne H6.out.1.v H6.out.1.x (by decide))).trans H6.out.1.x).at_ (i := 4) rfl, gB6⟩) (fun hHeld => ?_)
        clear hK K
        refine norm_ (a' := ?_) ?_ ?_
        rotate_left
        · show Act.put _ (some 56) _ = _
          simp only [Act.put, List.setIfInBounds_toArray, List.set_cons_zero, List.set_cons_succ, i64_w, i32_w]
          rfl
        refine pure_ (i := 8) (N := some 57) (v := ?_) (a' := ?_) #[true, true, true, true, true, true, true, true, true, false] rfl rfl (by kernel_rfl) (fun _ _ _ h => h) (Or.inl ⟨by rfl, ?_⟩) ?_ ?_
        rotate_left
        · intro w'
          go_simp
          with_reducible rfl
        rotate_left
        · simp only [Act.put, List.setIfInBounds_toArray, List.set_cons_zero, List.set_cons_succ, i64_w, i32_w]
          rfl
        refine last_ (i := 9) (N := none) #[true, true, true, true, true, true, true, true, true, true] rfl rfl (by kernel_rfl) (by decide) (fun K hK => ?_)
        have hx6 : Blk w6 bx (x37 k0 k1 k2 k3 v M 0 0) 37 := (H6.out.2.2.2.block bx H6.out.1.x.lt (Kd.R_ne H6.out.1.v H6.out.1.x (by decide))).trans H6.out.1.x
        have cb4 := hx6.at_ (i := 4) rfl
        have fb4 := hx6.free 4
        clear hx6
        refine skip_ (w1 := ?_) (by rfl) rfl ?_ ?_
        rotate_left
        · go_simp
          rfl
        refine hK.out _ _ ?_
        clear hK K
        refine done_ (by kernel_rfl) ?_
        have HX2 := Aside0.mk (H6.out.1.app H6.out.2.1 H6.out.2.2.1 H6.out.2.2.2 4 rfl)
        generalize (w6.setCell ⟨bx, 4, none⟩ (.slice A6 (m + 1) c6)) = w7 at HX2 ⊢
        clear H6
        obtain ⟨aB2, aA2, x2, e1, e2, hx2, hxo2, hB, h0, h1, h2, h3, h4, h5⟩ := HRD.out w7 HX2.out.b (i + m) him
        cases e1
        cases e2
        rw [HXO.out] at hxo2
        obtain rfl : x2 = x := by omega
        clear hxo2 hx2 h0 h1 h2 h3 h4 gB g5
        rw [← HGG.out] at h5
        have c5 := HX2.out.x.at_ (i := 5) rfl
        have f5 := HX2.out.x.free 5
        have hw : IntKind.i64.wrap (M + gr) = M + gr := IntWalk.i64_in _ (by omega)
        go_upto_region 10 with fail
        go_still_tail 12, (by kernel_rfl)
        change wpList _ _ _ _ _ w7.drew
        go_wp2_with fail
        go_roundw
        case rel => exact ⟨m + 1, .slice A6 (m + 1) c6, by go_num, by omega, ⟨HSM.out, by rw [HMN.out, run_take (by rw [HOL.out]; exact him), HXO.out]; exact (HX2.out.drew.set 5 (.int .i64 (M + gr)) rfl)⟩⟩
        case measure => simp [intOf]; omega
      · have HNO : Aside0 (cO s least p i d = none) := ⟨by
          unfold cO
          rw [if_neg]
          rintro ⟨h1, _⟩
          have h2 := (okR_at h1 hlt).1
          rw [HKS.out] at h2
          exact hke (of_decide_eq_true h2)⟩
        have ke : ∀ W, (Op.equalIn 10000 34 (.agg #[.int .u8 y0, .int .u8 y1, .int .u8 y2, .int .u8 y3]) (.agg #[.int .u8 k0, .int .u8 k1, .int .u8 k2, .int .u8 k3])).run Try.prog W = .ok false W := fun W => by rw [kind_eql, decide_eq_false hke]
        clear hke HKS
        go_upto_region 7 with fail
        go_quiet (fail)
        have hz := (HM.out.2.drewN nq)
        have HZ := Aside0.mk hz
        generalize wr.drewN nq = wq at hz HZ ⊢
        have z0 := hz.r.at_ (i := 0) rfl
        have z1 := hz.r.at_ (i := 1) rfl
        have z2 := hz.r.at_ (i := 2) rfl
        have z3 := hz.r.at_ (i := 3) rfl
        have z4 := hz.r.at_ (i := 4) rfl
        have z5 := hz.r.at_ (i := 5) rfl
        have z6 := hz.r.at_ (i := 6) rfl
        have z7 := hz.r.at_ (i := 7) rfl
        have zf := hz.r.free
        clear hz ke c0 c1 c2 c3 g0 g1 g2 g3 g5 gB
        go_wp2_with fail
        refine bodyPost_ret (results_ct rfl _ _ br 37 z37.toArray (0, 0) _ rfl (by exact ((((((((HZ.out.r.set 0 (.int .u8 0)).set 1 (.int .u8 0)).set 2 (.int .u8 0)).set 3 (.int .u8 0)).set 4 (.slice none 0 0)).set 5 (.int .i64 0)).set 6 (.int .i64 0)).set 7 (.int .i64 0))) Try.underlying37 rfl (by kernel_rfl)) rfl ?_
        exact ⟨((((((((HZ.out.b).setCell (p := ⟨br, 0, none⟩) HZ.out.hr _).setCell (p := ⟨br, 1, none⟩) HZ.out.hr _).setCell (p := ⟨br, 2, none⟩) HZ.out.hr _).setCell (p := ⟨br, 3, none⟩) HZ.out.hr _).setCell (p := ⟨br, 4, none⟩) HZ.out.hr _).setCell (p := ⟨br, 5, none⟩) HZ.out.hr _).setCell (p := ⟨br, 6, none⟩) HZ.out.hr _).setCell (p := ⟨br, 7, none⟩) HZ.out.hr _, by rw [HNO.out]; rfl⟩
    · have hmd : m = d := by omega
      subst hmd
      clear hlt hm
      have HKD := Aside0.mk HM.out.1
      have HX1 := Aside0.mk HM.out.2
      clear HM HSK
      obtain ⟨aB, aA, x1, e1, e2, hx1, hxo1, fB, f0, f1, f2, f3, f4, f5⟩ := HRD.out wr HX1.out.b i hii2
      cases e1
      cases e2
      obtain ⟨aB, aA, x2, e1, e2, hx2, hxo2, gB, g0, g1, g2, g3, g4, g5⟩ := HRD.out wr HX1.out.b (i + m - 1) (by omega)
      cases e1
      cases e2
      clear f0 f1 f2 f3 f5 g0 g1 g2 g3 g5 hxo1 hxo2
      have hx1i : (x1 : Int) < n := by omega
      have hx2i : (x2 : Int) < n := by omega
      have c5 := HX1.out.x.at_ (i := 5) rfl
      have p1 := HX1.out.p.at_ (i := 1) rfl
      have p2 := HX1.out.p.at_ (i := 2) rfl
      have q1 : ((i : Int) + m - 1).toNat = i + m - 1 := by omega
      have q2 : (0 : Int) ≤ (i : Int) + m - 1 := by omega
      have q3 : (i : Int) + m - 1 < n := by omega
      have q4 : i + m - 1 < n := by omega
      have q5 : IntKind.i64.wrap ((i : Int) + m - 1) = (i : Int) + m - 1 := IntWalk.i64_in _ (by omega)
      have hMb := massD_bd HSO.out.1 i m (by omega)
      have hma := (HSO.out.1 i (by omega)).1
      have hmz := (HSO.out.1 (i + m - 1) (by omega)).1
      have HCO : Aside0 (cO s least p i m = if least ≤ massD s i m ∧ (s (i + m - 1)).mic - (s i).mic ≤ p then some (costD s i (cen s i m) m) else none) := ⟨by
        unfold cO
        by_cases h1 : least ≤ massD s i m ∧ (s (i + m - 1)).mic - (s i).mic ≤ p
        · rw [if_pos h1, if_pos ⟨okR_all HSO.out.2 m (by omega) HKD.out (fun _ => h1.2), h1.1⟩]
        · rw [if_neg h1, if_neg]
          rintro ⟨h2, h3⟩
          have h4 := (okR_at h2 (show m - 1 < m by omega)).2
          rw [show i + (m - 1) = i + m - 1 by omega] at h4
          exact h1 ⟨h3, h4⟩⟩
      obtain ⟨M, hM⟩ : ∃ z, z = massD s i m := ⟨_, rfl⟩
      obtain ⟨ma, hmaa⟩ : ∃ z, z = (s i).mic := ⟨_, rfl⟩
      obtain ⟨mz, hmzz⟩ : ∃ z, z = (s (i + m - 1)).mic := ⟨_, rfl⟩
      rw [← hM] at c5 hMb HCO HX1
      rw [← hmaa] at f4 hma HCO
      rw [← hmzz] at g4 hmz HCO
      have HMM := Aside0.mk hM
      obtain ⟨hM0, hM1⟩ := hMb
      obtain ⟨hma0, hma1⟩ := hma
      obtain ⟨hmz0, hmz1⟩ := hmz
      clear hM hmaa hmzz
      have hbadM : M < least → cO s least p i m = none := fun h => by rw [HCO.out, if_neg (by omega)]
      have hbadP : mz - ma > p → cO s least p i m = none := fun h => by rw [HCO.out, if_neg (by omega)]
      have HBAD := Aside0.mk (And.intro hbadM hbadP); clear hbadM hbadP
      have hw : IntKind.i64.wrap (mz - ma) = mz - ma := IntWalk.i64_in _ (by omega)
      by_cases hMl : M < least
      · have dM : decide (M < least) = true := decide_eq_true hMl
        have HNO := Aside0.mk (HBAD.out.1 hMl)
        go_upto_region 11 with fail
        go_quiet (fail)
        clear f4 g4 fB gB c5 p1 p2 q1 q2 q3 q4 q5 hw dM hMl
        have hz := (HX1.out.drewN nq)
        have HZ := Aside0.mk hz
        generalize wr.drewN nq = wq at hz HZ ⊢
        have z0 := hz.r.at_ (i := 0) rfl
        have z1 := hz.r.at_ (i := 1) rfl
        have z2 := hz.r.at_ (i := 2) rfl
        have z3 := hz.r.at_ (i := 3) rfl
        have z4 := hz.r.at_ (i := 4) rfl
        have z5 := hz.r.at_ (i := 5) rfl
        have z6 := hz.r.at_ (i := 6) rfl
        have z7 := hz.r.at_ (i := 7) rfl
        have zf := hz.r.free
        clear hz
        go_wp2_with fail
        refine bodyPost_ret (results_ct rfl _ _ br 37 z37.toArray (0, 0) _ rfl (by exact ((((((((HZ.out.r.set 0 (.int .u8 0)).set 1 (.int .u8 0)).set 2 (.int .u8 0)).set 3 (.int .u8 0)).set 4 (.slice none 0 0)).set 5 (.int .i64 0)).set 6 (.int .i64 0)).set 7 (.int .i64 0))) Try.underlying37 rfl (by kernel_rfl)) rfl ?_
        exact ⟨((((((((HZ.out.b).setCell (p := ⟨br, 0, none⟩) HZ.out.hr _).setCell (p := ⟨br, 1, none⟩) HZ.out.hr _).setCell (p := ⟨br, 2, none⟩) HZ.out.hr _).setCell (p := ⟨br, 3, none⟩) HZ.out.hr _).setCell (p := ⟨br, 4, none⟩) HZ.out.hr _).setCell (p := ⟨br, 5, none⟩) HZ.out.hr _).setCell (p := ⟨br, 6, none⟩) HZ.out.hr _).setCell (p := ⟨br, 7, none⟩) HZ.out.hr _, by rw [HNO.out]; rfl⟩
      · have dM : decide (M < least) = false := decide_eq_false hMl
        by_cases hPl : mz - ma > p
        · have dP : decide (mz - ma > p) = true := decide_eq_true hPl
          have dP2 : decide (p < mz - ma) = true := decide_eq_true hPl
          have HNO := Aside0.mk (HBAD.out.2 hPl)
          go_upto_region 11 with fail
          go_quiet (fail)
          clear f4 g4 fB gB c5 p1 p2 q1 q2 q3 q4 q5 hw dM hMl dP dP2 hPl
          have hz := (HX1.out.drewN nq)
          have HZ := Aside0.mk hz
          generalize wr.drewN nq = wq at hz HZ ⊢
          have z0 := hz.r.at_ (i := 0) rfl
          have z1 := hz.r.at_ (i := 1) rfl
          have z2 := hz.r.at_ (i := 2) rfl
          have z3 := hz.r.at_ (i := 3) rfl
          have z4 := hz.r.at_ (i := 4) rfl
          have z5 := hz.r.at_ (i := 5) rfl
          have z6 := hz.r.at_ (i := 6) rfl
          have z7 := hz.r.at_ (i := 7) rfl
          have zf := hz.r.free
          clear hz
          go_wp2_with fail
          refine bodyPost_ret (results_ct rfl _ _ br 37 z37.toArray (0, 0) _ rfl (by exact ((((((((HZ.out.r.set 0 (.int .u8 0)).set 1 (.int .u8 0)).set 2 (.int .u8 0)).set 3 (.int .u8 0)).set 4 (.slice none 0 0)).set 5 (.int .i64 0)).set 6 (.int .i64 0)).set 7 (.int .i64 0))) Try.underlying37 rfl (by kernel_rfl)) rfl ?_
          exact ⟨((((((((HZ.out.b).setCell (p := ⟨br, 0, none⟩) HZ.out.hr _).setCell (p := ⟨br, 1, none⟩) HZ.out.hr _).setCell (p := ⟨br, 2, none⟩) HZ.out.hr _).setCell (p := ⟨br, 3, none⟩) HZ.out.hr _).setCell (p := ⟨br, 4, none⟩) HZ.out.hr _).setCell (p := ⟨br, 5, none⟩) HZ.out.hr _).setCell (p := ⟨br, 6, none⟩) HZ.out.hr _).setCell (p := ⟨br, 7, none⟩) HZ.out.hr _, by rw [HNO.out]; rfl⟩
        · have dP : decide (mz - ma > p) = false := decide_eq_false hPl
          have dP2 : decide (p < mz - ma) = false := decide_eq_false hPl
          have HYES : Aside0 (cO s least p i m = some (costD s i (cen s i m) m)) := ⟨by rw [HCO.out, if_pos (by omega)]⟩
          go_upto_region 11 with fail
          go_quiet (fail)
          clear f4 g4 fB gB c5 p1 p2 q1 q2 q3 q4 q5 hw dM hMl dP dP2 hPl HBAD HCO
          have HX2 := Aside0.mk (HX1.out.drewN nq)
          generalize wr.drewN nq = w3 at HX2 ⊢
          clear HX1
          have hmd := med_spec HSO.out.1 hd (by omega : i + m ≤ n)
          rw [← HMM.out] at hmd
          have HMD := Aside0.mk hmd
          have hmdl := hmd.2.2
          have hcen := (HSO.out.1 (i + med s i m) (by omega)).1
          have HCE : Aside0 (cen s i m = (s (i + med s i m)).mic) := ⟨rfl⟩
          obtain ⟨D, hD⟩ : ∃ z, z = med s i m := ⟨_, rfl⟩
          rw [← hD] at HMD hmdl hcen HCE
          obtain ⟨ce, hce⟩ : ∃ z, z = cen s i m := ⟨_, rfl⟩
          rw [← HCE.out, ← hce] at hcen
          have HCC := Aside0.mk hce
          obtain ⟨hce0, hce1⟩ := hcen
          clear hmd hD hce
          go_wp2_with fail
          go_loopw [14, 15] (fun v14 v15 wr => ∃ (c : Nat) (z : Int), v14 = .int .i64 z ∧ v15 = .int .i64 ((i : Int) + c) ∧ c ≤ D + 1 ∧ (0 ≤ z ∧ z ≤ 137438953472) ∧ Aside0 (z = massD s i c ∧ XM w wr bx br b9 k0 k1 k2 k3 v ((ord.drop i).take m) M (if c = D + 1 then ce else 0) 0 l least p)) (fun _ v15 _ => ((i : Int) + m - intOf v15).toNat)
          case atStart => exact ⟨0, 0, rfl, by go_num, by omega, by omega, ⟨rfl, by rw [if_neg (by omega)]; exact HX2.out⟩⟩
          case round =>
            obtain ⟨c, z, rfl, rfl, hc, ⟨hz0, hz1⟩, HZ⟩ := hrel
            clear HX2
            have c5 := HZ.out.2.x.at_ (i := 5) rfl
            have c6 := HZ.out.2.x.at_ (i := 6) rfl
            by_cases hcD : c = D + 1
            · have HZ2 : Aside0 (z = massD s i c ∧ XM w wr bx br b9 k0 k1 k2 k3 v ((ord.drop i).take m) M ce 0 l least p) := ⟨HZ.out.1, by have := HZ.out.2; rwa [if_pos hcD] at this⟩
              have c6' := HZ2.out.2.x.at_ (i := 6) rfl
              clear c6 HZ
              have HZ := HZ2
              clear HZ2
              have hceb : (ce == 0) = false := by simp; omega
              by_cases hcm : c < m
              · have hlti : (i : Int) + c < (i : Int) + m := by omega
                have dlt : decide ((i : Int) + c < (i : Int) + m) = true := decide_eq_true hlti
                go_upto_region 20 with fail
                clear c5 c6' dlt
                clear hc hz0 hz1
                have HX3 := Aside0.mk HZ.out.2
                clear HZ
                go_wp2_with fail
                go_loopw [16, 17] (fun v16 _ wr => ∃ (e : Nat) (y : Int), v16 = .int .i64 ((i : Int) + e) ∧ e ≤ m ∧ (0 ≤ y ∧ y ≤ e * 10736344498176) ∧ Aside0 (y = costD s i ce e ∧ XM w wr bx br b9 k0 k1 k2 k3 v ((ord.drop i).take m) M ce y l least p)) (fun v16 _ _ => ((i : Int) + m - intOf v16).toNat)
                case atStart => exact ⟨0, 0, by go_num, by omega, by omega, ⟨rfl, HX3.out⟩⟩
                case round =>
                  obtain ⟨e, y, rfl, he, ⟨hy0, hy1⟩, HY⟩ := hrel
                  clear HX3
                  by_cases hem : e < m
                  · have hlti : (i : Int) + e < (i : Int) + m := by omega
                    have him : i + e < n := by omega
                    have himi : (i : Int) + e < n := by omega
                    have him0 : (0 : Int) ≤ (i : Int) + e := by omega
                    have himt : ((i : Int) + e).toNat = i + e := by omega
                    obtain ⟨aB, aA, x, e1, e2, hx, hxo, gB, g0, g1, g2, g3, g4, g5⟩ := HRD.out wr HY.out.2.b (i + e) him
                    cases e1
                    cases e2
                    clear g0 g1 g2 g3 hxo g5
                    have hxi : (x : Int) < n := by omega
                    have c6 := HY.out.2.x.at_ (i := 6) rfl
                    have hso := HSO.out.1 (i + e) (by omega)
                    have HYN : Aside0 (costD s i ce (e + 1) = y + (s (i + e)).gr * distI ce (s (i + e)).mic) := ⟨by rw [HY.out.1]; rfl⟩
                    obtain ⟨u, hu⟩ : ∃ z, z = (s (i + e)).mic := ⟨_, rfl⟩
                    obtain ⟨gr, hgg⟩ : ∃ z, z = (s (i + e)).gr := ⟨_, rfl⟩
                    rw [← hu] at g4
                    rw [← hu, ← hgg] at hso HYN
                    have HGG := Aside0.mk hgg
                    obtain ⟨⟨hu0, hu1⟩, hgr0, hgr1⟩ := hso
                    clear hu hgg
                    have hw : IntKind.i64.wrap (u - ce) = u - ce := IntWalk.i64_in _ (by omega)
                    go_upto_region 23 with fail
                    go_quiet (fail)
                    clear g4 gB c6 hw
                    have HY2 := Aside0.mk (HY.out.2.drewN nq)
                    generalize wr.drewN nq = w4 at HY2 ⊢
                    obtain ⟨aB, aA, x', e1, e2, hx', hxo, gB, g0, g1, g2, g3, g4, g5⟩ := HRD.out w4 HY2.out.b (i + e) him
                    cases e1
                    cases e2
                    clear g0 g1 g2 g3 g4 hxo
                    rw [← HGG.out] at g5
                    have hxi' : (x' : Int) < n := by omega
                    have c7 := HY2.out.x.at_ (i := 7) rfl
                    have f7 := HY2.out.x.free 7
                    obtain ⟨Dd, hDd⟩ : ∃ z, z = distI ce u := ⟨_, rfl⟩
                    rw [← hDd] at HYN
                    have hDb : 0 ≤ Dd ∧ Dd ≤ 9999 := by rw [hDd]; unfold distI; split <;> omega
                    have hP := mul_bd (x := Dd) (y := gr) (a := 9999) (b := 1073741824) hDb.1 hDb.2 (by omega) hgr1
                    obtain ⟨P, hPP⟩ : ∃ z, z = Dd * gr := ⟨_, rfl⟩
                    rw [← hPP] at hP
                    have HNY : Aside0 (costD s i ce (e + 1) = y + P) := ⟨by rw [HYN.out, hPP, Int.mul_comm]⟩
                    obtain ⟨hP0, hP1⟩ := hP
                    have hyP : IntKind.i64.wrap (y + P) = y + P := IntWalk.i64_in _ (by omega)
                    have hPg : Dd * gr = P := hPP.symm
                    have hPw : IntKind.i64.wrap P = P := IntWalk.i64_in _ (by omega)
                    by_cases hneg : u - ce < 0
                    · have dn : decide (u - ce < 0) = true := decide_eq_true hneg
                      have hDn : -(u - ce) = Dd := by rw [hDd]; unfold distI; split <;> omega
                      have hDn2 : IntKind.i64.wrap (-(u - ce)) = Dd := by rw [hDn]; exact IntWalk.i64_in _ (by omega)
                      clear hDd hPP HYN HY
                      go_upto_region 26 with fail
                      go_still_tail 14, (by kernel_rfl)
                      change wpList _ _ _ _ _ w4.drew
                      go_wp2_with fail
                      go_roundw
                      case rel => exact ⟨e + 1, y + P, by go_num, by omega, by omega, ⟨HNY.out.symm, (HY2.out.drew.set 7 (.int .i64 (y + P)) rfl)⟩⟩
                      case measure => simp [intOf]; omega
                    · have dn : decide (u - ce < 0) = false := decide_eq_false hneg
                      have hDn : u - ce = Dd := by rw [hDd]; unfold distI; split <;> omega
                      clear hDd hPP HYN HY
                      go_upto_region 26 with fail
                      go_still_tail 14, (by kernel_rfl)
                      change wpList _ _ _ _ _ w4.drew
                      go_wp2_with fail
                      go_roundw
                      case rel => exact ⟨e + 1, y + P, by go_num, by omega, by omega, ⟨HNY.out.symm, (HY2.out.drew.set 7 (.int .i64 (y + P)) rfl)⟩⟩
                      case measure => simp [intOf]; omega
                  · have hlti : ¬ (i : Int) + e < (i : Int) + m := by omega
                    have heq : e = m := by omega
                    subst heq
                    have HF := Aside0.mk HY.out.2
                    have HV : Aside0 (cO s least p i e = some y ∧ massD s i e = M ∧ cen s i e = ce) := ⟨by rw [HYES.out, ← HCC.out, ← HY.out.1], HMM.out.symm, HCC.out.symm⟩
                    have c0 := HF.out.x.at_ (i := 0) rfl
                    have c1 := HF.out.x.at_ (i := 1) rfl
                    have c2 := HF.out.x.at_ (i := 2) rfl
                    have c3 := HF.out.x.at_ (i := 3) rfl
                    have c4 := HF.out.x.at_ (i := 4) rfl
                    have c5 := HF.out.x.at_ (i := 5) rfl
                    have c6 := HF.out.x.at_ (i := 6) rfl
                    have c7 := HF.out.x.at_ (i := 7) rfl
                    have z0 := HF.out.r.at_ (i := 0) rfl
                    have z1 := HF.out.r.at_ (i := 1) rfl
                    have z2 := HF.out.r.at_ (i := 2) rfl
                    have z3 := HF.out.r.at_ (i := 3) rfl
                    have z4 := HF.out.r.at_ (i := 4) rfl
                    have z5 := HF.out.r.at_ (i := 5) rfl
                    have z6 := HF.out.r.at_ (i := 6) rfl
                    have z7 := HF.out.r.at_ (i := 7) rfl
                    have zf := HF.out.r.free
                    obtain ⟨A5, c5_, hv5⟩ := Kd.R_slice HF.out.v
                    rw [show ((ord.drop i).take e).length = e by rw [List.length_take, List.length_drop, HOL.out]; omega] at hv5
                    have HVV := Aside0.mk HF.out.v
                    subst hv5
                    clear HY hlti hy0 hy1
                    go_wp2_with fail
                    refine bodyPost_ret (results_ct rfl _ _ br 37 (x37 k0 k1 k2 k3 (.slice A5 e c5_) M ce y).toArray (0, 0) _ rfl (by exact ((((((((HF.out.r.set 0 (.int .u8 k0)).set 1 (.int .u8 k1)).set 2 (.int .u8 k2)).set 3 (.int .u8 k3)).set 4 (.slice A5 e c5_)).set 5 (.int .i64 M)).set 6 (.int .i64 ce)).set 7 (.int .i64 y))) Try.underlying37 rfl (by kernel_rfl)) rfl ?_
                    refine ⟨((((((((HF.out.b).setCell (p := ⟨br, 0, none⟩) HF.out.hr _).setCell (p := ⟨br, 1, none⟩) HF.out.hr _).setCell (p := ⟨br, 2, none⟩) HF.out.hr _).setCell (p := ⟨br, 3, none⟩) HF.out.hr _).setCell (p := ⟨br, 4, none⟩) HF.out.hr _).setCell (p := ⟨br, 5, none⟩) HF.out.hr _).setCell (p := ⟨br, 6, none⟩) HF.out.hr _).setCell (p := ⟨br, 7, none⟩) HF.out.hr _, ?_⟩
                    rw [HV.out.1]
                    refine ⟨_, ?_, Kd.R_set (Kd.R_set (Kd.R_set (Kd.R_set (Kd.R_set (Kd.R_set (Kd.R_set (Kd.R_set (HVV.out) (HF.out.r) t37 0 _) ((HF.out.r).set 0 (.int .u8 k0)) t37 1 _) (((HF.out.r).set 0 (.int .u8 k0)).set 1 (.int .u8 k1)) t37 2 _) ((((HF.out.r).set 0 (.int .u8 k0)).set 1 (.int .u8 k1)).set 2 (.int .u8 k2)) t37 3 _) (((((HF.out.r).set 0 (.int .u8 k0)).set 1 (.int .u8 k1)).set 2 (.int .u8 k2)).set 3 (.int .u8 k3)) t37 4 _) ((((((HF.out.r).set 0 (.int .u8 k0)).set 1 (.int .u8 k1)).set 2 (.int .u8 k2)).set 3 (.int .u8 k3)).set 4 (.slice A5 e c5_)) t37 5 _) (((((((HF.out.r).set 0 (.int .u8 k0)).set 1 (.int .u8 k1)).set 2 (.int .u8 k2)).set 3 (.int .u8 k3)).set 4 (.slice A5 e c5_)).set 5 (.int .i64 M)) t37 6 _) ((((((((HF.out.r).set 0 (.int .u8 k0)).set 1 (.int .u8 k1)).set 2 (.int .u8 k2)).set 3 (.int .u8 k3)).set 4 (.slice A5 e c5_)).set 5 (.int .i64 M)).set 6 (.int .i64 ce)) t37 7 _⟩
                    rw [HV.out.2.1, HV.out.2.2, ← HK.out.1, ← HK.out.2.1, ← HK.out.2.2.1, ← HK.out.2.2.2]
                    rfl
              · have hlti : ¬ (i : Int) + c < (i : Int) + m := by omega
                have dlt : decide ((i : Int) + c < (i : Int) + m) = false := decide_eq_false hlti
                go_upto_region 20 with fail
                clear c5 c6' dlt
                clear hc hz0 hz1
                have HX3 := Aside0.mk HZ.out.2
                clear HZ
                go_wp2_with fail
                go_loopw [16, 17] (fun v16 _ wr => ∃ (e : Nat) (y : Int), v16 = .int .i64 ((i : Int) + e) ∧ e ≤ m ∧ (0 ≤ y ∧ y ≤ e * 10736344498176) ∧ Aside0 (y = costD s i ce e ∧ XM w wr bx br b9 k0 k1 k2 k3 v ((ord.drop i).take m) M ce y l least p)) (fun v16 _ _ => ((i : Int) + m - intOf v16).toNat)
                case atStart => exact ⟨0, 0, by go_num, by omega, by omega, ⟨rfl, HX3.out⟩⟩
                case round =>
                  obtain ⟨e, y, rfl, he, ⟨hy0, hy1⟩, HY⟩ := hrel
                  clear HX3
                  by_cases hem : e < m
                  · have hlti : (i : Int) + e < (i : Int) + m := by omega
                    have him : i + e < n := by omega
                    have himi : (i : Int) + e < n := by omega
                    have him0 : (0 : Int) ≤ (i : Int) + e := by omega
                    have himt : ((i : Int) + e).toNat = i + e := by omega
                    obtain ⟨aB, aA, x, e1, e2, hx, hxo, gB, g0, g1, g2, g3, g4, g5⟩ := HRD.out wr HY.out.2.b (i + e) him
                    cases e1
                    cases e2
                    clear g0 g1 g2 g3 hxo g5
                    have hxi : (x : Int) < n := by omega
                    have c6 := HY.out.2.x.at_ (i := 6) rfl
                    have hso := HSO.out.1 (i + e) (by omega)
                    have HYN : Aside0 (costD s i ce (e + 1) = y + (s (i + e)).gr * distI ce (s (i + e)).mic) := ⟨by rw [HY.out.1]; rfl⟩
                    obtain ⟨u, hu⟩ : ∃ z, z = (s (i + e)).mic := ⟨_, rfl⟩
                    obtain ⟨gr, hgg⟩ : ∃ z, z = (s (i + e)).gr := ⟨_, rfl⟩
                    rw [← hu] at g4
                    rw [← hu, ← hgg] at hso HYN
                    have HGG := Aside0.mk hgg
                    obtain ⟨⟨hu0, hu1⟩, hgr0, hgr1⟩ := hso
                    clear hu hgg
                    have hw : IntKind.i64.wrap (u - ce) = u - ce := IntWalk.i64_in _ (by omega)
                    go_upto_region 23 with fail
                    go_quiet (fail)
                    clear g4 gB c6 hw
                    have HY2 := Aside0.mk (HY.out.2.drewN nq)
                    generalize wr.drewN nq = w4 at HY2 ⊢
                    obtain ⟨aB, aA, x', e1, e2, hx', hxo, gB, g0, g1, g2, g3, g4, g5⟩ := HRD.out w4 HY2.out.b (i + e) him
                    cases e1
                    cases e2
                    clear g0 g1 g2 g3 g4 hxo
                    rw [← HGG.out] at g5
                    have hxi' : (x' : Int) < n := by omega
                    have c7 := HY2.out.x.at_ (i := 7) rfl
                    have f7 := HY2.out.x.free 7
                    obtain ⟨Dd, hDd⟩ : ∃ z, z = distI ce u := ⟨_, rfl⟩
                    rw [← hDd] at HYN
                    have hDb : 0 ≤ Dd ∧ Dd ≤ 9999 := by rw [hDd]; unfold distI; split <;> omega
                    have hP := mul_bd (x := Dd) (y := gr) (a := 9999) (b := 1073741824) hDb.1 hDb.2 (by omega) hgr1
                    obtain ⟨P, hPP⟩ : ∃ z, z = Dd * gr := ⟨_, rfl⟩
                    rw [← hPP] at hP
                    have HNY : Aside0 (costD s i ce (e + 1) = y + P) := ⟨by rw [HYN.out, hPP, Int.mul_comm]⟩
                    obtain ⟨hP0, hP1⟩ := hP
                    have hyP : IntKind.i64.wrap (y + P) = y + P := IntWalk.i64_in _ (by omega)
                    have hPg : Dd * gr = P := hPP.symm
                    have hPw : IntKind.i64.wrap P = P := IntWalk.i64_in _ (by omega)
                    by_cases hneg : u - ce < 0
                    · have dn : decide (u - ce < 0) = true := decide_eq_true hneg
                      have hDn : -(u - ce) = Dd := by rw [hDd]; unfold distI; split <;> omega
                      have hDn2 : IntKind.i64.wrap (-(u - ce)) = Dd := by rw [hDn]; exact IntWalk.i64_in _ (by omega)
                      clear hDd hPP HYN HY
                      go_upto_region 26 with fail
                      go_still_tail 14, (by kernel_rfl)
                      change wpList _ _ _ _ _ w4.drew
                      go_wp2_with fail
                      go_roundw
                      case rel => exact ⟨e + 1, y + P, by go_num, by omega, by omega, ⟨HNY.out.symm, (HY2.out.drew.set 7 (.int .i64 (y + P)) rfl)⟩⟩
                      case measure => simp [intOf]; omega
                    · have dn : decide (u - ce < 0) = false := decide_eq_false hneg
                      have hDn : u - ce = Dd := by rw [hDd]; unfold distI; split <;> omega
                      clear hDd hPP HYN HY
                      go_upto_region 26 with fail
                      go_still_tail 14, (by kernel_rfl)
                      change wpList _ _ _ _ _ w4.drew
                      go_wp2_with fail
                      go_roundw
                      case rel => exact ⟨e + 1, y + P, by go_num, by omega, by omega, ⟨HNY.out.symm, (HY2.out.drew.set 7 (.int .i64 (y + P)) rfl)⟩⟩
                      case measure => simp [intOf]; omega
                  · have hlti : ¬ (i : Int) + e < (i : Int) + m := by omega
                    have heq : e = m := by omega
                    subst heq
                    have HF := Aside0.mk HY.out.2
                    have HV : Aside0 (cO s least p i e = some y ∧ massD s i e = M ∧ cen s i e = ce) := ⟨by rw [HYES.out, ← HCC.out, ← HY.out.1], HMM.out.symm, HCC.out.symm⟩
                    have c0 := HF.out.x.at_ (i := 0) rfl
                    have c1 := HF.out.x.at_ (i := 1) rfl
                    have c2 := HF.out.x.at_ (i := 2) rfl
                    have c3 := HF.out.x.at_ (i := 3) rfl
                    have c4 := HF.out.x.at_ (i := 4) rfl
                    have c5 := HF.out.x.at_ (i := 5) rfl
                    have c6 := HF.out.x.at_ (i := 6) rfl
                    have c7 := HF.out.x.at_ (i := 7) rfl
                    have z0 := HF.out.r.at_ (i := 0) rfl
                    have z1 := HF.out.r.at_ (i := 1) rfl
                    have z2 := HF.out.r.at_ (i := 2) rfl
                    have z3 := HF.out.r.at_ (i := 3) rfl
                    have z4 := HF.out.r.at_ (i := 4) rfl
                    have z5 := HF.out.r.at_ (i := 5) rfl
                    have z6 := HF.out.r.at_ (i := 6) rfl
                    have z7 := HF.out.r.at_ (i := 7) rfl
                    have zf := HF.out.r.free
                    obtain ⟨A5, c5_, hv5⟩ := Kd.R_slice HF.out.v
                    rw [show ((ord.drop i).take e).length = e by rw [List.length_take, List.length_drop, HOL.out]; omega] at hv5
                    have HVV := Aside0.mk HF.out.v
                    subst hv5
                    clear HY hlti hy0 hy1
                    go_wp2_with fail
                    refine bodyPost_ret (results_ct rfl _ _ br 37 (x37 k0 k1 k2 k3 (.slice A5 e c5_) M ce y).toArray (0, 0) _ rfl (by exact ((((((((HF.out.r.set 0 (.int .u8 k0)).set 1 (.int .u8 k1)).set 2 (.int .u8 k2)).set 3 (.int .u8 k3)).set 4 (.slice A5 e c5_)).set 5 (.int .i64 M)).set 6 (.int .i64 ce)).set 7 (.int .i64 y))) Try.underlying37 rfl (by kernel_rfl)) rfl ?_
                    refine ⟨((((((((HF.out.b).setCell (p := ⟨br, 0, none⟩) HF.out.hr _).setCell (p := ⟨br, 1, none⟩) HF.out.hr _).setCell (p := ⟨br, 2, none⟩) HF.out.hr _).setCell (p := ⟨br, 3, none⟩) HF.out.hr _).setCell (p := ⟨br, 4, none⟩) HF.out.hr _).setCell (p := ⟨br, 5, none⟩) HF.out.hr _).setCell (p := ⟨br, 6, none⟩) HF.out.hr _).setCell (p := ⟨br, 7, none⟩) HF.out.hr _, ?_⟩
                    rw [HV.out.1]
                    refine ⟨_, ?_, Kd.R_set (Kd.R_set (Kd.R_set (Kd.R_set (Kd.R_set (Kd.R_set (Kd.R_set (Kd.R_set (HVV.out) (HF.out.r) t37 0 _) ((HF.out.r).set 0 (.int .u8 k0)) t37 1 _) (((HF.out.r).set 0 (.int .u8 k0)).set 1 (.int .u8 k1)) t37 2 _) ((((HF.out.r).set 0 (.int .u8 k0)).set 1 (.int .u8 k1)).set 2 (.int .u8 k2)) t37 3 _) (((((HF.out.r).set 0 (.int .u8 k0)).set 1 (.int .u8 k1)).set 2 (.int .u8 k2)).set 3 (.int .u8 k3)) t37 4 _) ((((((HF.out.r).set 0 (.int .u8 k0)).set 1 (.int .u8 k1)).set 2 (.int .u8 k2)).set 3 (.int .u8 k3)).set 4 (.slice A5 e c5_)) t37 5 _) (((((((HF.out.r).set 0 (.int .u8 k0)).set 1 (.int .u8 k1)).set 2 (.int .u8 k2)).set 3 (.int .u8 k3)).set 4 (.slice A5 e c5_)).set 5 (.int .i64 M)) t37 6 _) ((((((((HF.out.r).set 0 (.int .u8 k0)).set 1 (.int .u8 k1)).set 2 (.int .u8 k2)).set 3 (.int .u8 k3)).set 4 (.slice A5 e c5_)).set 5 (.int .i64 M)).set 6 (.int .i64 ce)) t37 7 _⟩
                    rw [HV.out.2.1, HV.out.2.2, ← HK.out.1, ← HK.out.2.1, ← HK.out.2.2.1, ← HK.out.2.2.2]
                    rfl
            · have hcDl : c ≤ D := by omega
              have hZ2 := HZ.out.2
              rw [if_neg hcD] at hZ2 c6
              have HZ2 := Aside0.mk (And.intro HZ.out.1 hZ2)
              have hcm : c < m := by omega
              have hlti : (i : Int) + c < (i : Int) + m := by omega
              have him : i + c < n := by omega
              have himi : (i : Int) + c < n := by omega
              have him0 : (0 : Int) ≤ (i : Int) + c := by omega
              have himt : ((i : Int) + c).toNat = i + c := by omega
              obtain ⟨aB, aA, x, e1, e2, hx, hxo, gB, g0, g1, g2, g3, g4, g5⟩ := HRD.out wr hZ2.b (i + c) him
              cases e1
              cases e2
              clear g0 g1 g2 g3 hxo hZ2 HZ
              have hxi : (x : Int) < n := by omega
              have hmb := massD_bd HSO.out.1 i (c + 1) (by omega)
              have hgr := (HSO.out.1 (i + c) (by omega)).2
              have hzz : massD s i (c + 1) = z + (s (i + c)).gr := by rw [HZ2.out.1]; rfl
              rw [hzz] at hmb
              obtain ⟨gr, hgg⟩ : ∃ z, z = (s (i + c)).gr := ⟨_, rfl⟩
              rw [← hgg] at g5 hmb hzz hgr
              have HZZ := Aside0.mk hzz
              obtain ⟨hm0, hm1⟩ := hmb
              obtain ⟨hgr0, hgr1⟩ := hgr
              clear hgg hzz
              have hw1 : IntKind.i64.wrap (z + gr) = z + gr := IntWalk.i64_in _ (by omega)
              have hw2 : IntKind.i64.wrap (2 * (z + gr)) = 2 * (z + gr) := IntWalk.i64_in _ (by omega)
              have f6 := HZ2.out.2.x.free 6
              by_cases hcl : c < D
              · have hlo := HMD.out.1 c hcl
                rw [HZZ.out] at hlo
                have d1 : decide (2 * (z + gr) ≥ M) = false := decide_eq_false (by omega)
                have d2 : decide (M ≤ 2 * (z + gr)) = false := decide_eq_false (by omega)
                clear hlo g4
                go_wp2_with fail
                go_roundw
                case rel => exact ⟨c + 1, z + gr, by go_num, by go_num, by omega, by omega, ⟨HZZ.out.symm, by rw [if_neg (by omega)]; exact HZ2.out.2⟩⟩
                case measure => simp [intOf]; omega
              · have hcD2 : c = D := by omega
                have hhi := HMD.out.2.1
                rw [← hcD2, HZZ.out] at hhi
                have d1 : decide (2 * (z + gr) ≥ M) = true := decide_eq_true (by omega)
                have d2 : decide (M ≤ 2 * (z + gr)) = true := decide_eq_true (by omega)
                rw [show (s (i + c)).mic = ce by rw [hcD2, ← HCE.out, HCC.out]] at g4
                have HcD2 := Aside0.mk hcD2
                clear hhi hcD2 hcl
                go_wp2_with fail
                go_roundw
                case rel => exact ⟨c + 1, z + gr, by go_num, by go_num, by have := HcD2.out; omega, by omega, ⟨HZZ.out.symm, by rw [if_pos (by have := HcD2.out; omega)]; exact HZ2.out.2.set 6 (.int .i64 ce) rfl⟩⟩
                case measure => simp [intOf]; omega
end Go.Proofs.Ythkfahkkcjagdaa
