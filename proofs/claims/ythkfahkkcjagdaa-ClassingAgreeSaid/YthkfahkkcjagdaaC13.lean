/- One line of a plan: its walk. -/
import Derived.Test.YthkfahkkcjagdaaC11
import Derived.Test.YthkfahkkcjagdaaC0
import Derived.Test.YthkfahkkcjagdaaShf
import Derived.Deep.RegionHeldLaw
import Derived.Deep.RegionHeld3
import Derived.Deep.DrawnRows
namespace Go.Proofs.Ythkfahkkcjagdaa
open Go.RowKit Go.Proofs.YthkfahkkcjagdaaW.PrintWords Go.Proofs.YthkfahkkcjagdaaW.PrintMore Go.Proofs.YthkfahkkcjagdaaW.PrintLast
attribute [local go_sem ↓] Go.wp_at_zero Go.wp_at_succ

theorem at_nat2 (w : World) (bt o : Nat) (A : Option Addr) (cf : Nat) (fs : List Fl) (ord : List Int) (cv ev : Value) (h : TB w bt o A cf fs ord cv ev) (i : Nat) (h1 : i < fs.length) (x : Int) (hx : x = i) :
    Calls Try.prog 105 #[.pointer (some ⟨bt, 0, none⟩), .int .i64 x] w fun e w' => e = .returned (.agg #[.int .u8 (sF fs ord i).k0, .int .u8 (sF fs ord i).k1, .int .u8 (sF fs ord i).k2, .int .u8 (sF fs ord i).k3, .int .i64 (sF fs ord i).mic, .int .i64 (sF fs ord i).gr]) ∧ Below w.heap.size w w' := by
  subst hx
  exact at_any w bt o A cf fs ord cv ev h i (by omega) (by omega)
theorem own_lower {w : World} {b b' : Nat} {e : TypeId} {sz n : Nat} {v : Value} {xs : List Value} (h : w.ownsRow b' e sz v n xs) (hb : b ≤ b') : w.ownsRow b e sz v n xs := by
  obtain ⟨h1, h2⟩ := h
  refine ⟨h1, ?_⟩
  rcases h2 with h2 | ⟨g, cap, cur, e1, hg, r⟩
  · exact .inl h2
  · exact .inr ⟨g, cap, cur, e1, Nat.le_trans hb hg, r⟩
/-- A copy of a part of the order. -/
theorem clone_any (w : World) (o i d c : Nat) (ord : List Int) (h : Blk w o (ints ord) 3) (hd : i + d ≤ ord.length) (hl : ord.length ≤ 1000) :
    Calls Try.prog 92 #[.slice (some ⟨o, i, none⟩) d c] w fun e w' => ∃ g cap, e = .returned (.slice (some ⟨g, 0, none⟩) d cap) ∧ w'.ownsRow w.heap.size 3 1 (.slice (some ⟨g, 0, none⟩) d cap) d (ints ((ord.drop i).take d)) ∧ Below w.heap.size w w' := by
  have hz : d ≤ (ord.drop i).length := by rw [List.length_drop]; omega
  refine (Try.slices_Clone_int o i d c (ord.drop i) w hz (by omega) (fun j hj => ?_)).mono ?_
  · rw [List.length_drop] at hj
    have := h.at_ (ints_get ord (i := i + j) (by omega))
    rw [this]
    congr 2
    rw [List.getD_eq_getElem?_getD, List.getD_eq_getElem?_getD, List.getElem?_drop]
  · rintro e w' ⟨v', rfl, h2, h3, h4⟩
    rcases h2.2 with ⟨e1, _⟩ | ⟨g, cap, cur, rfl, _⟩
    · exact absurd e1 h3
    · exact ⟨g, cap, rfl, h2, h4⟩
theorem cell_below {w W : World} (hb : Below w.heap.size w W) {a : Addr} {v : Value} (h : w.cell? a = some v) : W.cell? a = some v := (Kp.of_below (S := fun _ => False) hb).cell h id
theorem cells7 {w W : World} (hb : Below w.heap.size w W) {a1 a2 a3 a4 a5 a6 a7 : Addr} {v1 v2 v3 v4 v5 v6 v7 : Value} (h : w.cell? a1 = some v1 ∧ w.cell? a2 = some v2 ∧ w.cell? a3 = some v3 ∧ w.cell? a4 = some v4 ∧ w.cell? a5 = some v5 ∧ w.cell? a6 = some v6 ∧ w.cell? a7 = some v7) :
    W.cell? a1 = some v1 ∧ W.cell? a2 = some v2 ∧ W.cell? a3 = some v3 ∧ W.cell? a4 = some v4 ∧ W.cell? a5 = some v5 ∧ W.cell? a6 = some v6 ∧ W.cell? a7 = some v7 :=
  ⟨cell_below hb h.1, cell_below hb h.2.1, cell_below hb h.2.2.1, cell_below hb h.2.2.2.1, cell_below hb h.2.2.2.2.1, cell_below hb h.2.2.2.2.2.1, cell_below hb h.2.2.2.2.2.2⟩
/-- What a line answers: the run of d fleeces from i on. -/
def LinePost (w : World) (fs : List Fl) (ord : List Int) (least p : Int) (i d : Nat) (e : Ending) (w' : World) : Prop :=
  ∃ v' : Value, e = .returned (.agg #[.int .u8 (sF fs ord i).k0, .int .u8 (sF fs ord i).k1, .int .u8 (sF fs ord i).k2, .int .u8 (sF fs ord i).k3, v', .int .i64 (massD (sF fs ord) i d), .int .i64 ((erowF (sF fs ord) p fs.length i).getD (i + d) 0), .int .i64 ((crowF (sF fs ord) least p fs.length i).getD (i + d) 0)]) ∧
    w'.ownsRow w.heap.size 3 1 v' d (ints ((ord.drop i).take d)) ∧ Below w.heap.size w w'

theorem own_base {w : World} {b : Nat} {e : TypeId} {sz n c m g : Nat} {xs : List Value} (h : w.ownsRow b e sz (.slice (some ⟨g, 0, none⟩) c m) n xs) : b ≤ g := by
  rcases h.2 with ⟨e1, _⟩ | ⟨g', cap, cur, e1, hg, _⟩
  · cases e1
  · cases e1; exact hg
section
variable {w w2 W : World} {b6 g7 d cap7 : Nat} {xs : List Value} {p0 p1 p2 p3 x y : Int}
theorem fin_new (h1 : Below w.heap.size w w2) (h2 : Blk w2 w.heap.size [.int .u8 0, .int .u8 0, .int .u8 0, .int .u8 0, .slice none 0 0, .int .i64 0, .int .i64 0, .int .i64 0] 37) (h3 : Below w2.heap.size w2 W) (h4 : W.ownsRow w2.heap.size 3 1 (.slice (some ⟨g7, 0, none⟩) d cap7) d xs) (h6 : b6 = w.heap.size) :
    Blk (W.alloc (.cells #[.int .u8 p0, .int .u8 p1, .int .u8 p2, .int .u8 p3, .slice (some ⟨g7, 0, none⟩) d cap7, .int .i64 0, .int .i64 y, .int .i64 x] 37)) W.heap.size [.int .u8 p0, .int .u8 p1, .int .u8 p2, .int .u8 p3, .slice (some ⟨g7, 0, none⟩) d cap7, .int .i64 0, .int .i64 y, .int .i64 x] 37 ∧ (W.alloc (.cells #[.int .u8 p0, .int .u8 p1, .int .u8 p2, .int .u8 p3, .slice (some ⟨g7, 0, none⟩) d cap7, .int .i64 0, .int .i64 y, .int .i64 x] 37)).ownsRow w.heap.size 3 1 (.slice (some ⟨g7, 0, none⟩) d cap7) d xs ∧ Below w.heap.size w (W.alloc (.cells #[.int .u8 p0, .int .u8 p1, .int .u8 p2, .int .u8 p3, .slice (some ⟨g7, 0, none⟩) d cap7, .int .i64 0, .int .i64 y, .int .i64 x] 37)) ∧ Blk (W.alloc (.cells #[.int .u8 p0, .int .u8 p1, .int .u8 p2, .int .u8 p3, .slice (some ⟨g7, 0, none⟩) d cap7, .int .i64 0, .int .i64 y, .int .i64 x] 37)) b6 [.int .u8 0, .int .u8 0, .int .u8 0, .int .u8 0, .slice none 0 0, .int .i64 0, .int .i64 0, .int .i64 0] 37 ∧ w.heap.size < W.heap.size ∧ w.heap.size < g7 := by
  have l1 := h2.lt
  have l2 := h3.size
  have l3 := own_base h4
  refine ⟨Blk.new W _ 37, pw_own_below (own_lower h4 h1.size) (below_alloc (Below.refl _ _) _), below_alloc (below_step h1 h3) _, by rw [h6]; exact (h2.below h3).alloc _, by omega, by omega⟩
theorem fin_set {b7 : Nat} (h1 : Below w.heap.size w w2) (h2 : Blk w2 w.heap.size [.int .u8 0, .int .u8 0, .int .u8 0, .int .u8 0, .slice none 0 0, .int .i64 0, .int .i64 0, .int .i64 0] 37) (h3 : Below w2.heap.size w2 W) (h4 : W.ownsRow w2.heap.size 3 1 (.slice (some ⟨g7, 0, none⟩) d cap7) d xs) (h6 : b6 = w.heap.size) (h7 : Blk W b7 [.int .u8 0, .int .u8 0, .int .u8 0, .int .u8 0, .slice none 0 0, .int .i64 0, .int .i64 0, .int .i64 0] 37) (h8 : w.heap.size < b7) :
    Blk ((((((((W.setCell ⟨b7, 0, none⟩ (.int .u8 p0)).setCell ⟨b7, 1, none⟩ (.int .u8 p1)).setCell ⟨b7, 2, none⟩ (.int .u8 p2)).setCell ⟨b7, 3, none⟩ (.int .u8 p3)).setCell ⟨b7, 4, none⟩ (.slice (some ⟨g7, 0, none⟩) d cap7)).setCell ⟨b7, 5, none⟩ (.int .i64 0)).setCell ⟨b7, 6, none⟩ (.int .i64 y)).setCell ⟨b7, 7, none⟩ (.int .i64 x)) b7 [.int .u8 p0, .int .u8 p1, .int .u8 p2, .int .u8 p3, .slice (some ⟨g7, 0, none⟩) d cap7, .int .i64 0, .int .i64 y, .int .i64 x] 37 ∧ ((((((((W.setCell ⟨b7, 0, none⟩ (.int .u8 p0)).setCell ⟨b7, 1, none⟩ (.int .u8 p1)).setCell ⟨b7, 2, none⟩ (.int .u8 p2)).setCell ⟨b7, 3, none⟩ (.int .u8 p3)).setCell ⟨b7, 4, none⟩ (.slice (some ⟨g7, 0, none⟩) d cap7)).setCell ⟨b7, 5, none⟩ (.int .i64 0)).setCell ⟨b7, 6, none⟩ (.int .i64 y)).setCell ⟨b7, 7, none⟩ (.int .i64 x)).ownsRow w.heap.size 3 1 (.slice (some ⟨g7, 0, none⟩) d cap7) d xs ∧ Below w.heap.size w ((((((((W.setCell ⟨b7, 0, none⟩ (.int .u8 p0)).setCell ⟨b7, 1, none⟩ (.int .u8 p1)).setCell ⟨b7, 2, none⟩ (.int .u8 p2)).setCell ⟨b7, 3, none⟩ (.int .u8 p3)).setCell ⟨b7, 4, none⟩ (.slice (some ⟨g7, 0, none⟩) d cap7)).setCell ⟨b7, 5, none⟩ (.int .i64 0)).setCell ⟨b7, 6, none⟩ (.int .i64 y)).setCell ⟨b7, 7, none⟩ (.int .i64 x)) ∧ Blk ((((((((W.setCell ⟨b7, 0, none⟩ (.int .u8 p0)).setCell ⟨b7, 1, none⟩ (.int .u8 p1)).setCell ⟨b7, 2, none⟩ (.int .u8 p2)).setCell ⟨b7, 3, none⟩ (.int .u8 p3)).setCell ⟨b7, 4, none⟩ (.slice (some ⟨g7, 0, none⟩) d cap7)).setCell ⟨b7, 5, none⟩ (.int .i64 0)).setCell ⟨b7, 6, none⟩ (.int .i64 y)).setCell ⟨b7, 7, none⟩ (.int .i64 x)) b6 [.int .u8 0, .int .u8 0, .int .u8 0, .int .u8 0, .slice none 0 0, .int .i64 0, .int .i64 0, .int .i64 0] 37 ∧ w.heap.size < b7 ∧ w.heap.size < g7 := by
  have l1 := h2.lt
  have l3 := own_base h4
  have k8 := ((((((((Kp.refl (fun k => k = b7) W).setCell (p := ⟨b7, 0, none⟩) (fun _ => rfl) (.int .u8 p0)).setCell (p := ⟨b7, 1, none⟩) (fun _ => rfl) (.int .u8 p1)).setCell (p := ⟨b7, 2, none⟩) (fun _ => rfl) (.int .u8 p2)).setCell (p := ⟨b7, 3, none⟩) (fun _ => rfl) (.int .u8 p3)).setCell (p := ⟨b7, 4, none⟩) (fun _ => rfl) (.slice (some ⟨g7, 0, none⟩) d cap7)).setCell (p := ⟨b7, 5, none⟩) (fun _ => rfl) (.int .i64 0)).setCell (p := ⟨b7, 6, none⟩) (fun _ => rfl) (.int .i64 y)).setCell (p := ⟨b7, 7, none⟩) (fun _ => rfl) (.int .i64 x)
  refine ⟨(((((((h7.set 0 (.int .u8 p0)).set 1 (.int .u8 p1)).set 2 (.int .u8 p2)).set 3 (.int .u8 p3)).set 4 (.slice (some ⟨g7, 0, none⟩) d cap7)).set 5 (.int .i64 0)).set 6 (.int .i64 y)).set 7 (.int .i64 x), ?_, ?_, ?_, h8, by omega⟩
  · refine own_move (own_lower h4 h1.size) fun k hk => k8.block k (by obtain ⟨cl, hcl⟩ := own_typed h4 k hk; exact lt_of_block hcl) (fun he => ?_)
    obtain ⟨cl, hcl⟩ := own_typed h4 k hk
    unfold Blk at h7
    rw [show b7 = k from he.symm, hcl] at h7
    injection h7 with h7
    injection h7 with _ h9
    exact absurd h9 (by decide)
  · exact ((Kp.of_below (below_step h1 h3) : Kp (fun k => k = b7) w W).step k8).below_of (fun i hi => by omega)
  · rw [h6]; exact (h2.below h3).kp k8 (by omega)
end
theorem hb_of {w2 W : World} {P : Prop} (h : Aside0 (Below w2.heap.size w2 W) ∧ P) : Below w2.heap.size w2 W := h.1.out
theorem blk8 {w : World} {b : Nat} (h : Blk w b [.int .u8 0, .int .u8 0, .int .u8 0, .int .u8 0, .slice none 0 0, .int .i64 0, .int .i64 0, .int .i64 0] 37) : (∀ i, w.frozen? ⟨b, i, none⟩ = false) ∧ w.cell? ⟨b, 0, none⟩ = some (.int .u8 0) ∧ w.cell? ⟨b, 1, none⟩ = some (.int .u8 0) ∧ w.cell? ⟨b, 2, none⟩ = some (.int .u8 0) ∧ w.cell? ⟨b, 3, none⟩ = some (.int .u8 0) ∧ w.cell? ⟨b, 4, none⟩ = some (.slice none 0 0) ∧ w.cell? ⟨b, 5, none⟩ = some (.int .i64 0) ∧ w.cell? ⟨b, 6, none⟩ = some (.int .i64 0) ∧ w.cell? ⟨b, 7, none⟩ = some (.int .i64 0) :=
  ⟨h.free, h.at_ (i := 0) rfl, h.at_ (i := 1) rfl, h.at_ (i := 2) rfl, h.at_ (i := 3) rfl, h.at_ (i := 4) rfl, h.at_ (i := 5) rfl, h.at_ (i := 6) rfl, h.at_ (i := 7) rfl⟩
set_option maxHeartbeats 100000000 in
set_option maxRecDepth 100000 in
theorem line_any (w : World) (N bt o : Nat) (A : Option Addr) (cf : Nat) (fs : List Fl) (ord : List Int) (least p : Int) (cv ev : Value) (r1s r2s : List Nat) (h : TT w N bt o A cf fs ord least p cv ev r1s r2s) (hl : r1s.length = fs.length) (hn : fs.length ≤ 128) (hs : SOK (sF fs ord) fs.length) (i d : Nat) (hd0 : 0 < d) (hd : i + d ≤ fs.length) (j : Nat) (hj : j = i + d) :
    Calls Try.prog 63 #[.pointer (some ⟨bt, 0, none⟩), .int .i64 i, .int .i64 j] w (LinePost w fs ord least p i d) := by
  have hc1 := h.tb.t.at_ (i := 1) rfl
  have hc2 := h.tb.t.at_ (i := 2) rfl
  have hc3 := h.tb.t.at_ (i := 3) rfl
  obtain ⟨gc, cc, ecv, hcc, hc4, hc5⟩ := h.cost (a := i) (j := j) (by omega) (by omega)
  obtain ⟨ge, ce, eev, hce, hc6, hc7⟩ := h.centre (a := i) (j := j) (by omega) (by omega)
  have HT := Aside0.mk h
  have HO := Aside0.mk h.tb.o
  have HSO := Aside0.mk hs
  have HOL := Aside0.mk h.tb.ol; clear h
  subst ecv
  subst eev
  obtain ⟨x, hx⟩ : ∃ z, z = (crowF (sF fs ord) least p fs.length i).getD j 0 := ⟨_, rfl⟩
  obtain ⟨y, hy⟩ : ∃ z, z = (erowF (sF fs ord) p fs.length i).getD j 0 := ⟨_, rfl⟩
  obtain ⟨r1, hr1⟩ : ∃ z, z = r1s.getD i 0 := ⟨_, rfl⟩
  obtain ⟨r2, hr2⟩ : ∃ z, z = r2s.getD i 0 := ⟨_, rfl⟩
  rw [← hr1] at hc4 hc5
  rw [← hr2] at hc6 hc7
  rw [← hx] at hc5
  rw [← hy] at hc7
  have HXY := Aside0.mk (And.intro hx hy); clear hx hy hr1 hr2
  rw [hl] at hc2 hc3 hcc hce HT
  obtain ⟨n, hn0⟩ : ∃ z, z = fs.length := ⟨_, rfl⟩
  rw [← hn0] at hc1 hc2 hc3 hc4 hc6 hn hd hcc hce
  have HN := Aside0.mk hn0; clear hn0 hl
  have HC := Aside0.mk (show w.cell? ⟨bt, 1, none⟩ = some (.slice (some ⟨o, 0, none⟩) n n) ∧ w.cell? ⟨bt, 2, none⟩ = some (.slice (some ⟨gc, 0, none⟩) n cc) ∧ w.cell? ⟨gc, i, none⟩ = some (.slice (some ⟨r1, 0, none⟩) (n + 1) (n + 1)) ∧ w.cell? ⟨r1, j, none⟩ = some (.int .i64 x) ∧ w.cell? ⟨bt, 3, none⟩ = some (.slice (some ⟨ge, 0, none⟩) n ce) ∧ w.cell? ⟨ge, i, none⟩ = some (.slice (some ⟨r2, 0, none⟩) (n + 1) (n + 1)) ∧ w.cell? ⟨r2, j, none⟩ = some (.int .i64 y) from ⟨hc1, hc2, hc4, hc5, hc3, hc6, hc7⟩)
  clear hc1 hc2 hc3 hc4 hc5 hc6 hc7
  have HA := Aside0.mk (fun W (hW : Below w.heap.size w W) => at_nat2 W bt o A cf fs ord _ _ (HT.out.tb.below hW) i (by rw [← HN.out]; omega) (i : Int) rfl)
  have HB := Aside0.mk (fun W (hW : Below w.heap.size w W) (k : Nat) (hk : k < n) (z : Int) (hz : z = k) => at_nat2 W bt o A cf fs ord _ _ (HT.out.tb.below hW) k (by rw [← HN.out]; exact hk) z hz)
  have HCL := Aside0.mk (fun W (hW : Below w.heap.size w W) (c : Nat) => clone_any W o i d c ord (HO.out.below hW) (by rw [HOL.out, ← HN.out]; exact hd) (by rw [HOL.out, ← HN.out]; omega))
  obtain ⟨f1, hf1⟩ : ∃ z, z = sF fs ord i := ⟨_, rfl⟩
  rw [← hf1] at HA
  obtain ⟨p0, p1, p2, p3, p4, p5⟩ := f1
  dsimp only at HA
  have HF1 := Aside0.mk hf1; clear hf1
  have k3 : j - i = d := by omega
  have k4 : i < n := by omega
  have q1 : (i : Int) ≤ j := by omega
  have q2 : (j : Int) ≤ n := by omega
  have q3 : (j : Int) < (n : Int) + 1 := by omega
  have q4 : ¬ n = i := by omega
  have q6 : (0 : Int) ≤ j := by omega
  have q7 : (i : Int) < n := by omega
  have HJ := Aside0.mk hj; clear hj
  have fkind := fl_kind
  have fgr := fl_gr
  have Z := below_alloc (Below.refl w.heap.size w) (.cells #[.int .u8 0, .int .u8 0, .int .u8 0, .int .u8 0, .slice none 0 0, .int .i64 0, .int .i64 0, .int .i64 0] 37)
  have B6 := Blk.new w [.int .u8 0, .int .u8 0, .int .u8 0, .int .u8 0, .slice none 0 0, .int .i64 0, .int .i64 0, .int .i64 0] 37
  go_enter Try.func63, Try.ntmps63
  go_upto_region 1 with fail
  obtain ⟨w2, hw2⟩ : ∃ z, z = w.alloc (.cells #[.int .u8 0, .int .u8 0, .int .u8 0, .int .u8 0, .slice none 0 0, .int .i64 0, .int .i64 0, .int .i64 0] 37) := ⟨_, rfl⟩
  rw [← hw2] at Z B6 ⊢
  have HZ := Aside0.mk (And.intro Z B6); clear Z B6 hw2
  have hw2s := HZ.out.2.lt
  obtain ⟨b6, hb6⟩ : ∃ z, z = w.heap.size := ⟨_, rfl⟩
  rw [← hb6] at ⊢
  have HB6 := Aside0.mk hb6; clear hb6
  go_cut [7] from 9 to 41 (fun v w3 => ∃ b7 g7 cap7 : Nat, v = .pointer (some ⟨b7, 0, none⟩) ∧ Aside0 (Blk w3 b7 [.int .u8 p0, .int .u8 p1, .int .u8 p2, .int .u8 p3, .slice (some ⟨g7, 0, none⟩) d cap7, .int .i64 0, .int .i64 y, .int .i64 x] 37 ∧ w3.ownsRow w.heap.size 3 1 (.slice (some ⟨g7, 0, none⟩) d cap7) d (ints ((ord.drop i).take d)) ∧ Below w.heap.size w w3 ∧ Blk w3 b6 [.int .u8 0, .int .u8 0, .int .u8 0, .int .u8 0, .slice none 0 0, .int .i64 0, .int .i64 0, .int .i64 0] 37 ∧ w.heap.size < b7 ∧ w.heap.size < g7))
  case first =>
    have hS0 : ∀ W, Below w2.heap.size w2 W → Aside0 (Below w2.heap.size w2 W) ∧ W.cell? ⟨bt, 1, none⟩ = some (.slice (some ⟨o, 0, none⟩) n n) ∧ W.cell? ⟨bt, 2, none⟩ = some (.slice (some ⟨gc, 0, none⟩) n cc) ∧ W.cell? ⟨gc, i, none⟩ = some (.slice (some ⟨r1, 0, none⟩) (n + 1) (n + 1)) ∧ W.cell? ⟨r1, j, none⟩ = some (.int .i64 x) ∧ W.cell? ⟨bt, 3, none⟩ = some (.slice (some ⟨ge, 0, none⟩) n ce) ∧ W.cell? ⟨ge, i, none⟩ = some (.slice (some ⟨r2, 0, none⟩) (n + 1) (n + 1)) ∧ W.cell? ⟨r2, j, none⟩ = some (.int .i64 y) := fun W hW => ⟨⟨hW⟩, cells7 (below_step HZ.out.1 hW) HC.out⟩
    have HS0 := Aside0.mk hS0; clear hS0
    have HA2 := Aside0.mk (fun W (hW : Below w2.heap.size w2 W) => HA.out W (below_step HZ.out.1 hW))
    have HCL2 := Aside0.mk (fun W (hW : Below w2.heap.size w2 W) (c : Nat) => HCL.out W (below_step HZ.out.1 hW) c)
    go_region_held3 (fun W => Aside0 (Below w2.heap.size w2 W) ∧ W.cell? ⟨bt, 1, none⟩ = some (.slice (some ⟨o, 0, none⟩) n n) ∧ W.cell? ⟨bt, 2, none⟩ = some (.slice (some ⟨gc, 0, none⟩) n cc) ∧ W.cell? ⟨gc, i, none⟩ = some (.slice (some ⟨r1, 0, none⟩) (n + 1) (n + 1)) ∧ W.cell? ⟨r1, j, none⟩ = some (.int .i64 x) ∧ W.cell? ⟨bt, 3, none⟩ = some (.slice (some ⟨ge, 0, none⟩) n ce) ∧ W.cell? ⟨ge, i, none⟩ = some (.slice (some ⟨r2, 0, none⟩) (n + 1) (n + 1)) ∧ W.cell? ⟨r2, j, none⟩ = some (.int .i64 y))
      ((refine HS0.out _ ?_; with_reducible (first
        | exact below_drew (Below.refl _ _)
        | exact below_drew (below_alloc (Below.refl _ _) _)
        | exact HB7.out
        | exact HB5.out
        | exact below_alloc HB7.out _
        | exact below_alloc HB5.out _
        | exact below_alloc (below_drew (Below.refl _ _)) _
        | (refine Below.setCell (Below.setCell (Below.setCell (Below.setCell (Below.setCell (Below.setCell (Below.setCell (Below.setCell HB7.out ?_ _) ?_ _) ?_ _) ?_ _) ?_ _) ?_ _) ?_ _) ?_ _ <;> first | exact Nat.le_refl _ | exact HB5.out.size))))
      (first
        | ((with_reducible refine (HA2.out _ (hb_of (by assumption))).mono ?_); rintro e5 w5 ⟨rfl, hb5⟩; have HB5 := Aside0.mk (below_step (hb_of (by assumption)) hb5); (first | (have FB := Aside0.mk (by with_reducible exact Blk.below (Blk.drew (Blk.new _ [.int .u8 0, .int .u8 0, .int .u8 0, .int .u8 0, .slice none 0 0, .int .i64 0, .int .i64 0, .int .i64 0] 37)) hb5)) | skip); clear hb5)
        | ((with_reducible refine (HCL2.out _ (hb_of (by assumption)) _).mono ?_); rintro e7 w7 ⟨g7, cap7, rfl, ho7, hb7⟩; have HB7 := Aside0.mk (below_step (hb_of (by assumption)) hb7); have HO7 := Aside0.mk (own_lower ho7 (hb_of (by assumption)).size); (first | (have FD := Aside0.mk (Blk.below FB.out hb7); obtain ⟨FDf, FD0, FD1, FD2, FD3, FD4, FD5, FD6, FD7⟩ := blk8 FD.out) | (have FD := Aside0.mk (by with_reducible exact Blk.below (Blk.new _ [.int .u8 0, .int .u8 0, .int .u8 0, .int .u8 0, .slice none 0 0, .int .i64 0, .int .i64 0, .int .i64 0] 37) hb7); obtain ⟨FDf, FD0, FD1, FD2, FD3, FD4, FD5, FD6, FD7⟩ := blk8 FD.out) | skip); clear ho7 hb7))
    all_goals go_wp2_with fail
    all_goals go_meet
    · case rel => exact ⟨_, _, _, rfl, ⟨fin_new HZ.out.1 HZ.out.2 HB7.out HO7.out HB6.out⟩⟩
    · case rel =>
        have hlt : w.heap.size < w5.heap.size := Nat.lt_of_lt_of_le hw2s HB5.out.size
        exact ⟨_, _, _, rfl, ⟨fin_set HZ.out.1 HZ.out.2 HB7.out HO7.out HB6.out FD.out hlt⟩⟩
    · case rel => exact ⟨_, _, _, rfl, ⟨fin_set HZ.out.1 HZ.out.2 HB7.out HO7.out HB6.out FD.out hw2s⟩⟩
  case rest =>
  obtain ⟨b7, g7, cap7, rfl, HR7⟩ := hcut
  obtain ⟨w3, hw3⟩ : ∃ z, z = wc := ⟨_, rfl⟩
  rw [← hw3] at HR7 ⊢
  clear hw3 HA HCL
  have hmd := fun (e : Nat) (he : e ≤ d) => massD_bd HSO.out i e (by rw [← HN.out]; omega)
  have HMD := Aside0.mk hmd; clear hmd
  go_wp2_with fail
  go_loopw [8] (fun v wr => ∃ e : Nat, v = .int .i64 ((i : Int) + e) ∧ e ≤ d ∧ Aside0 (Blk wr b7 [.int .u8 p0, .int .u8 p1, .int .u8 p2, .int .u8 p3, .slice (some ⟨g7, 0, none⟩) d cap7, .int .i64 (massD (sF fs ord) i e), .int .i64 y, .int .i64 x] 37 ∧ wr.ownsRow w.heap.size 3 1 (.slice (some ⟨g7, 0, none⟩) d cap7) d (ints ((ord.drop i).take d)) ∧ Below w.heap.size w wr ∧ Blk wr b6 [.int .u8 0, .int .u8 0, .int .u8 0, .int .u8 0, .slice none 0 0, .int .i64 0, .int .i64 0, .int .i64 0] 37)) (fun v _ => j - (intOf v).toNat)
  case atStart => exact ⟨0, by go_num, by omega, ⟨HR7.out.1, HR7.out.2.1, HR7.out.2.2.1, HR7.out.2.2.2.1⟩⟩
  case round =>
    obtain ⟨e, rfl, he, HX⟩ := hrel
    have hb7 : w.heap.size < b7 := HR7.out.2.2.2.2.1
    have hg7 : w.heap.size < g7 := HR7.out.2.2.2.2.2
    by_cases hlt : e < d
    · have hlti : (i : Int) + e < j := by have := HJ.out; omega
      have HQ := Aside0.mk (fun W (hW : Below w.heap.size w W) => HB.out W hW (i + e) (by omega) ((i : Int) + e) (by omega))
      have hg := HSO.out (i + e) (by rw [← HN.out]; omega)
      obtain ⟨f4, hf4⟩ : ∃ z, z = sF fs ord (i + e) := ⟨_, rfl⟩
      rw [← hf4] at HQ hg
      obtain ⟨e0, e1, e2, e3, e4, e5⟩ := f4
      dsimp only at HQ hg
      obtain ⟨_, he51, he52⟩ := hg
      have hM := HMD.out e (by omega)
      have hm1 : massD (sF fs ord) i (e + 1) = massD (sF fs ord) i e + e5 := by
        show massD (sF fs ord) i e + (sF fs ord (i + e)).gr = _
        rw [← hf4]
      have HM1 := Aside0.mk hm1; clear hm1 hf4
      have c5 := HX.out.1.at_ (i := 5) rfl
      have ff := HX.out.1.free
      obtain ⟨M, hMM⟩ : ∃ z, z = massD (sF fs ord) i e := ⟨_, rfl⟩
      rw [← hMM] at c5 hM
      have HMM := Aside0.mk hMM; clear hMM
      obtain ⟨hM0, hM1⟩ := hM
      go_upto_region 5 with fail
      go_region_with ((with_reducible refine (HQ.out _ (below_drew HX.out.2.2.1)).mono ?_); rintro e9 w9 ⟨rfl, hb9⟩; have h9 := below_step (below_drew (Below.refl _ _)) hb9; have B9 := HX.out.1.below h9; have c59 := B9.at_ (i := 5) rfl; rw [← HMM.out] at c59; have ff9 := B9.free; have H9 := Aside0.mk (And.intro B9 (And.intro (pw_own_below HX.out.2.1 h9) (And.intro (below_step HX.out.2.2.1 h9) (HX.out.2.2.2.below h9)))); clear h9 B9 hb9)
      all_goals go_wp2_with fail
      all_goals go_roundw
      all_goals first
        | (case rel =>
            refine ⟨e + 1, by go_num, by omega, ⟨?_, ?_, ?_, ?_⟩⟩
            · rw [HM1.out, ← HMM.out]; exact H9.out.1.set 5 (.int .i64 (M + e5))
            · exact own_move H9.out.2.1 (fun k hk => by have hk' : k = g7 := (by simpa [Value.ownBlock] using hk.symm); exact Below.heap_setCell _ _ _ _ (by obtain ⟨cl, hcl⟩ := own_typed H9.out.2.1 k hk; intro he; have h37 := H9.out.1; unfold Blk at h37; rw [show b7 = k from he.symm, hcl] at h37; injection h37 with h37; injection h37 with _ h38; exact absurd h38 (by decide)))
            · exact H9.out.2.2.1.setCell (by show w.heap.size ≤ b7; omega) _
            · exact H9.out.2.2.2.far (by show b6 ≠ b7; rw [HB6.out]; omega) _)
        | skip
      all_goals first | (case measure => simp [intOf]; have := HJ.out; omega) | skip
    · have hlti : ¬ (i : Int) + e < j := by have := HJ.out; omega
      have hed : e = d := by have := HJ.out; omega
      obtain ⟨M, hMM⟩ : ∃ z, z = massD (sF fs ord) i e := ⟨_, rfl⟩
      have HMM := Aside0.mk hMM
      have HX1 := HX.out.1
      rw [← hMM] at HX1
      clear hMM
      have t0 := HX1.at_ (i := 0) rfl
      have t1 := HX1.at_ (i := 1) rfl
      have t2 := HX1.at_ (i := 2) rfl
      have t3 := HX1.at_ (i := 3) rfl
      have t4 := HX1.at_ (i := 4) rfl
      have t5 := HX1.at_ (i := 5) rfl
      have t6 := HX1.at_ (i := 6) rfl
      have t7 := HX1.at_ (i := 7) rfl
      have z0 := HX.out.2.2.2.at_ (i := 0) rfl
      have z1 := HX.out.2.2.2.at_ (i := 1) rfl
      have z2 := HX.out.2.2.2.at_ (i := 2) rfl
      have z3 := HX.out.2.2.2.at_ (i := 3) rfl
      have z4 := HX.out.2.2.2.at_ (i := 4) rfl
      have z5 := HX.out.2.2.2.at_ (i := 5) rfl
      have z6 := HX.out.2.2.2.at_ (i := 6) rfl
      have z7 := HX.out.2.2.2.at_ (i := 7) rfl
      have zf := HX.out.2.2.2.free
      have HED := Aside0.mk hed
      have hz8 := (((((((HX.out.2.2.2.set 0 (.int .u8 p0)).set 1 (.int .u8 p1)).set 2 (.int .u8 p2)).set 3 (.int .u8 p3)).set 4 (.slice (some ⟨g7, 0, none⟩) d cap7)).set 5 (.int .i64 M)).set 6 (.int .i64 y)).set 7 (.int .i64 x)
      have hk8 := ((((((((Kp.refl (fun k => k = b6) wr).setCell (p := ⟨b6, 0, none⟩) (fun _ => rfl) (.int .u8 p0)).setCell (p := ⟨b6, 1, none⟩) (fun _ => rfl) (.int .u8 p1)).setCell (p := ⟨b6, 2, none⟩) (fun _ => rfl) (.int .u8 p2)).setCell (p := ⟨b6, 3, none⟩) (fun _ => rfl) (.int .u8 p3)).setCell (p := ⟨b6, 4, none⟩) (fun _ => rfl) (.slice (some ⟨g7, 0, none⟩) d cap7)).setCell (p := ⟨b6, 5, none⟩) (fun _ => rfl) (.int .i64 M)).setCell (p := ⟨b6, 6, none⟩) (fun _ => rfl) (.int .i64 y)).setCell (p := ⟨b6, 7, none⟩) (fun _ => rfl) (.int .i64 x)
      have HZ8 := Aside0.mk (And.intro hz8 hk8)
      clear HX1 hed hz8 hk8
      go_wp2_with fail
      (try simp only [Exit.inBlock, Exit.then])
      refine bodyPost_ret (v := .agg #[.int .u8 p0, .int .u8 p1, .int .u8 p2, .int .u8 p3, .slice (some ⟨g7, 0, none⟩) d cap7, .int .i64 M, .int .i64 y, .int .i64 x]) (results_cell_row rfl _ _ b6 37 #[.int .u8 p0, .int .u8 p1, .int .u8 p2, .int .u8 p3, .slice (some ⟨g7, 0, none⟩) d cap7, .int .i64 M, .int .i64 y, .int .i64 x] (0, 0) _ rfl HZ8.out.1 Try.underlying37 rfl (by kernel_rfl)) rfl ?_
      refine ⟨.slice (some ⟨g7, 0, none⟩) d cap7, ?_, ?_, ?_⟩
      · rw [← HF1.out, HMM.out, HED.out, HXY.out.1, HXY.out.2, HJ.out]
      · exact own_move HX.out.2.1 (fun k hk => HZ8.out.2.block k (by obtain ⟨cl, hcl⟩ := own_typed HX.out.2.1 k hk; exact lt_of_block hcl) (by have hk' : k = g7 := (by simpa [Value.ownBlock] using hk.symm); rw [HB6.out]; omega))
      · exact ((Kp.of_below HX.out.2.2.1 : Kp (fun k => k = b6) w wr).step HZ8.out.2).below_of (fun i hi => by rw [hi, HB6.out]; exact Nat.le_refl _)
end Go.Proofs.Ythkfahkkcjagdaa
