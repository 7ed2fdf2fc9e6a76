/- Texts of this claim and words of the kit's print, trimmed to what it uses and joined. -/
import Derived.Deep.RegionHeldLaw
import Derived.Deep.RegionHeld3
import Derived.Deep.DrawnRows
import Derived.Test.YthkfahkkcjagdaaZhD
import Derived.Test.YthkfahkkcjagdaaZhC
import Derived.Test.YthkfahkkcjagdaaZhShf
section
namespace Go.Proofs.Ythkfahkkcjagdaa
open Go.RowKit Go.Proofs.YthkfahkkcjagdaaW.PrintWords Go.Proofs.YthkfahkkcjagdaaW.PrintMore Go.Proofs.YthkfahkkcjagdaaW.PrintLast
attribute [local go_sem ↓] Go.wp_at_zero Go.wp_at_succ

theorem at_nat2 (w : World) (bt o : Nat) (A : Option Addr) (cf : Nat) (fs : List Fl) (ord : List Int) (cv ev : Value) (h : TB w bt o A cf fs ord cv ev) (i : Nat) (h1 : i < fs.length) (x : Int) (hx : x = i) :
    Calls Try.prog 105 #[.pointer (some ⟨bt, 0, none⟩), .int .i64 x] w fun e w' => e = .returned (.agg #[.int .u8 (sF fs ord i).k0, .int .u8 (sF fs ord i).k1, .int .u8 (sF fs ord i).k2, .int .u8 (sF fs ord i).k3, .int .i64 (sF fs ord i).mic, .int .i64 (sF fs ord i).gr]) ∧ Below w.heap.size w w' := by
  subst hx
  exact at_any w bt o A cf fs ord cv ev h i (by omega) (by omega)
theorem own_lower {w : World} {b b' : Nat} {e : TypeId} {sz n : Nat} {v : Value} {xs : List Value} (h : w.ownsRow b' e sz v n xs) (hb : b ≤ b') : w.ownsRow b e sz v n xs := by
  obtain ⟨h1, h2⟩ := h
  refine ⟨h1, ?_⟩
  rcases h2 with h2 | ⟨g, cap, cur, e1, hg, r⟩
  · exact .inl h2
  · exact .inr ⟨g, cap, cur, e1, Nat.le_trans hb hg, r⟩
/-- A copy of a part of the order. -/
theorem clone_any (w : World) (o i d c : Nat) (ord : List Int) (h : Blk w o (ints ord) 3) (hd : i + d ≤ ord.length) (hl : ord.length ≤ 1000) :
    Calls Try.prog 92 #[.slice (some ⟨o, i, none⟩) d c] w fun e w' => ∃ g cap, e = .returned (.slice (some ⟨g, 0, none⟩) d cap) ∧ w'.ownsRow w.heap.size 3 1 (.slice (some ⟨g, 0, none⟩) d cap) d (ints ((ord.drop i).take d)) ∧ Below w.heap.size w w' := by
  have hz : d ≤ (ord.drop i).length := by rw [List.length_drop]; omega
  refine (Try.slices_Clone_int o i d c (ord.drop i) w hz (by omega) (fun j hj => ?_)).mono ?_
  · rw [List.length_drop] at hj
    have := h.at_ (ints_get ord (i := i + j) (by omega))
    rw [this]
    congr 2
    rw [List.getD_eq_getElem?_getD, List.getD_eq_getElem?_getD, List.getElem?_drop]
  · rintro e w' ⟨v', rfl, h2, h3, h4⟩
    rcases h2.2 with ⟨e1, _⟩ | ⟨g, cap, cur, rfl, _⟩
    · exact absurd e1 h3
    · exact ⟨g, cap, rfl, h2, h4⟩
theorem cell_below {w W : World} (hb : Below w.heap.size w W) {a : Addr} {v : Value} (h : w.cell? a = some v) : W.cell? a = some v := (Kp.of_below (S := fun _ => False) hb).cell h id
theorem cells7 {w W : World} (hb : Below w.heap.size w W) {a1 a2 a3 a4 a5 a6 a7 : Addr} {v1 v2 v3 v4 v5 v6 v7 : Value} (h : w.cell? a1 = some v1 ∧ w.cell? a2 = some v2 ∧ w.cell? a3 = some v3 ∧ w.cell? a4 = some v4 ∧ w.cell? a5 = some v5 ∧ w.cell? a6 = some v6 ∧ w.cell? a7 = some v7) :
    W.cell? a1 = some v1 ∧ W.cell? a2 = some v2 ∧ W.cell? a3 = some v3 ∧ W.cell? a4 = some v4 ∧ W.cell? a5 = some v5 ∧ W.cell? a6 = some v6 ∧ W.cell? a7 = some v7 :=
  ⟨cell_below hb h.1, cell_below hb h.2.1, cell_below hb h.2.2.1, cell_below hb h.2.2.2.1, cell_below hb h.2.2.2.2.1, cell_below hb h.2.2.2.2.2.1, cell_below hb h.2.2.2.2.2.2⟩
/-- What a line answers: the run of d fleeces from i on. -/
def LinePost (w : World) (fs : List Fl) (ord : List Int) (least p : Int) (i d : Nat) (e : Ending) (w' : World) : Prop :=
  ∃ v' : Value, e = .returned (.agg #[.int .u8 (sF fs ord i).k0, .int .u8 (sF fs ord i).k1, .int .u8 (sF fs ord i).k2, .int .u8 (sF fs ord i).k3, v', .int .i64 (massD (sF fs ord) i d), .int .i64 ((erowF (sF fs ord) p fs.length i).getD (i + d) 0), .int .i64 ((crowF (sF fs ord) least p fs.length i).getD (i + d) 0)]) ∧
    w'.ownsRow w.heap.size 3 1 v' d (ints ((ord.drop i).take d)) ∧ Below w.heap.size w w'

theorem own_base {w : World} {b : Nat} {e : TypeId} {sz n c m g : Nat} {xs : List Value} (h : w.ownsRow b e sz (.slice (some ⟨g, 0, none⟩) c m) n xs) : b ≤ g := by
  rcases h.2 with ⟨e1, _⟩ | ⟨g', cap, cur, e1, hg, _⟩
  · cases e1
  · cases e1; exact hg
section
variable {w w2 W : World} {b6 g7 d cap7 : Nat} {xs : List Value} {p0 p1 p2 p3 x y : Int}
theorem fin_new (h1 : Below w.heap.size w w2) (h2 : Blk w2 w.heap.size [.int .u8 0, .int .u8 0, .int .u8 0, .int .u8 0, .slice none 0 0, .int .i64 0, .int .i64 0, .int .i64 0] 37) (h3 : Below w2.heap.size w2 W) (h4 : W.ownsRow w2.heap.size 3 1 (.slice (some ⟨g7, 0, none⟩) d cap7) d xs) (h6 : b6 = w.heap.size) :
    Blk (W.alloc (.cells #[.int .u8 p0, .int .u8 p1, .int .u8 p2, .int .u8 p3, .slice (some ⟨g7, 0, none⟩) d cap7, .int .i64 0, .int .i64 y, .int .i64 x] 37)) W.heap.size [.int .u8 p0, .int .u8 p1, .int .u8 p2, .int .u8 p3, .slice (some ⟨g7, 0, none⟩) d cap7, .int .i64 0, .int .i64 y, .int .i64 x] 37 ∧ (W.alloc (.cells #[.int .u8 p0, .int .u8 p1, .int .u8 p2, .int .u8 p3, .slice (some ⟨g7, 0, none⟩) d cap7, .int .i64 0, .int .i64 y, .int .i64 x] 37)).ownsRow w.heap.size 3 1 (.slice (some ⟨g7, 0, none⟩) d cap7) d xs ∧ Below w.heap.size w (W.alloc (.cells #[.int .u8 p0, .int .u8 p1, .int .u8 p2, .int .u8 p3, .slice (some ⟨g7, 0, none⟩) d cap7, .int .i64 0, .int .i64 y, .int .i64 x] 37)) ∧ Blk (W.alloc (.cells #[.int .u8 p0, .int .u8 p1, .int .u8 p2, .int .u8 p3, .slice (some ⟨g7, 0, none⟩) d cap7, .int .i64 0, .int .i64 y, .int .i64 x] 37)) b6 [.int .u8 0, .int .u8 0, .int .u8 0, .int .u8 0, .slice none 0 0, .int .i64 0, .int .i64 0, .int .i64 0] 37 ∧ w.heap.size < W.heap.size ∧ w.heap.size < g7 := by
  have l1 := h2.lt
  have l2 := h3.size
  have l3 := own_base h4
  refine ⟨Blk.new W _ 37, pw_own_below (own_lower h4 h1.size) (below_alloc (Below.refl _ _) _), below_alloc (below_step h1 h3) _, by rw [h6]; exact (h2.below h3).alloc _, by omega, by omega⟩
theorem fin_set {b7 : Nat} (h1 : Below w.heap.size w w2) (h2 : Blk w2 w.heap.size [.int .u8 0, .int .u8 0, .int .u8 0, .int .u8 0, .slice none 0 0, .int .i64 0, .int .i64 0, .int .i64 0] 37) (h3 : Below w2.heap.size w2 W) (h4 : W.ownsRow w2.heap.size 3 1 (.slice (some ⟨g7, 0, none⟩) d cap7) d xs) (h6 : b6 = w.heap.size) (h7 : Blk W b7 [.int .u8 0, .int .u8 0, .int .u8 0, .int .u8 0, .slice none 0 0, .int .i64 0, .int .i64 0, .int .i64 0] 37) (h8 : w.heap.size < b7) :
    Blk ((((((((W.setCell ⟨b7, 0, none⟩ (.int .u8 p0)).setCell ⟨b7, 1, none⟩ (.int .u8 p1)).setCell ⟨b7, 2, none⟩ (.int .u8 p2)).setCell ⟨b7, 3, none⟩ (.int .u8 p3)).setCell ⟨b7, 4, none⟩ (.slice (some ⟨g7, 0, none⟩) d cap7)).setCell ⟨b7, 5, none⟩ (.int .i64 0)).setCell ⟨b7, 6, none⟩ (.int .i64 y)).setCell ⟨b7, 7, none⟩ (.int .i64 x)) b7 [.int .u8 p0, .int .u8 p1, .int .u8 p2, .int .u8 p3, .slice (some ⟨g7, 0, none⟩) d cap7, .int .i64 0, .int .i64 y, .int .i64 x] 37 ∧ ((((((((W.setCell ⟨b7, 0, none⟩ (.int .u8 p0)).setCell ⟨b7, 1, none⟩ (.int .u8 p1)).setCell ⟨b7, 2, none⟩ (.int .u8 p2)).setCell ⟨b7, 3, none⟩ (.int .u8 p3)).setCell ⟨b7, 4, none⟩ (.slice (some ⟨g7, 0, none⟩) d cap7)).setCell ⟨b7, 5, none⟩ (.int .i64 0)).setCell ⟨b7, 6, none⟩ (.int .i64 y)).setCell ⟨b7, 7, none⟩ (.int .i64 x)).ownsRow w.heap.size 3 1 (.slice (some ⟨g7, 0, none⟩) d cap7) d xs ∧ Below w.heap.size w ((((((((W.setCell ⟨b7, 0, none⟩ (.int .u8 p0)).setCell ⟨b7, 1, none⟩ (.int .u8 p1)).setCell ⟨b7, 2, none⟩ (.int .u8 p2)).setCell ⟨b7, 3, none⟩ (.int .u8 p3)).setCell ⟨b7, 4, none⟩ (.slice (some ⟨g7, 0, none⟩) d cap7)).setCell ⟨b7, 5, none⟩ (.int .i64 0)).setCell ⟨b7, 6, none⟩ (.int .i64 y)).setCell ⟨b7, 7, none⟩ (.int .i64 x)) ∧ Blk ((((((((W.setCell ⟨b7, 0, none⟩ (.int .u8 p0)).setCell ⟨b7, 1, none⟩ (.int .u8 p1)).setCell ⟨b7, 2, none⟩ (.int .u8 p2)).setCell ⟨b7, 3, none⟩ (.int .u8 p3)).setCell ⟨b7, 4, none⟩ (.slice (some ⟨g7, 0, none⟩) d cap7)).setCell ⟨b7, 5, none⟩ (.int .i64 0)).setCell ⟨b7, 6, none⟩ (.int .i64 y)).setCell ⟨b7, 7, none⟩ (.int .i64 x)) b6 [.int .u8 0, .int .u8 0, .int .u8 0, .int .u8 0, .slice none 0 0, .int .i64 0, .int .i64 0, .int .i64 0] 37 ∧ w.heap.size < b7 ∧ w.heap.size < g7 := by
  have l1 := h2.lt
  have l3 := own_base h4
  have k8 := ((((((((Kp.refl (fun k => k = b7) W).setCell (p := ⟨b7, 0, none⟩) (fun _ => rfl) (.int .u8 p0)).setCell (p := ⟨b7, 1, none⟩) (fun _ => rfl) (.int .u8 p1)).setCell (p := ⟨b7, 2, none⟩) (fun _ => rfl) (.int .u8 p2)).setCell (p := ⟨b7, 3, none⟩) (fun _ => rfl) (.int .u8 p3)).setCell (p := ⟨b7, 4, none⟩) (fun _ => rfl) (.slice (some ⟨g7, 0, none⟩) d cap7)).setCell (p := ⟨b7, 5, none⟩) (fun _ => rfl) (.int .i64 0)).setCell (p := ⟨b7, 6, none⟩) (fun _ => rfl) (.int .i64 y)).setCell (p := ⟨b7, 7, none⟩) (fun _ => rfl) (.int .i64 x)
  refine ⟨(((((((h7.set 0 (.int .u8 p0)).set 1 (.int .u8 p1)).set 2 (.int .u8 p2)).set 3 (.int .u8 p3)).set 4 (.slice (some ⟨g7, 0, none⟩) d cap7)).set 5 (.int .i64 0)).set 6 (.int .i64 y)).set 7 (.int .i64 x), ?_, ?_, ?_, h8, by omega⟩
  · refine own_move (own_lower h4 h1.size) fun k hk => k8.block k (by obtain ⟨cl, hcl⟩ := own_typed h4 k hk; exact lt_of_block hcl) (fun he => ?_)
    obtain ⟨cl, hcl⟩ := own_typed h4 k hk
    unfold Blk at h7
    rw [show b7 = k from he.symm, hcl] at h7
    injection h7 with h7
    injection h7 with _ h9
    exact absurd h9 (by decide)
  · exact ((Kp.of_below (below_step h1 h3) : Kp (fun k => k = b7) w W).step k8).below_of (fun i hi => by omega)
  · rw [h6]; exact (h2.below h3).kp k8 (by omega)
end
theorem hb_of {w2 W : World} {P : Prop} (h : Aside0 (Below w2.heap.size w2 W) ∧ P) : Below w2.heap.size w2 W := h.1.out
theorem blk8 {w : World} {b : Nat} (h : Blk w b [.int .u8 0, .int .u8 0, .int .u8 0, .int .u8 0, .slice none 0 0, .int .i64 0, .int .i64 0, .int .i64 0] 37) : (∀ i, w.frozen? ⟨b, i, none⟩ = false) ∧ w.cell? ⟨b, 0, none⟩ = some (.int .u8 0) ∧ w.cell? ⟨b, 1, none⟩ = some (.int .u8 0) ∧ w.cell? ⟨b, 2, none⟩ = some (.int .u8 0) ∧ w.cell? ⟨b, 3, none⟩ = some (.int .u8 0) ∧ w.cell? ⟨b, 4, none⟩ = some (.slice none 0 0) ∧ w.cell? ⟨b, 5, none⟩ = some (.int .i64 0) ∧ w.cell? ⟨b, 6, none⟩ = some (.int .i64 0) ∧ w.cell? ⟨b, 7, none⟩ = some (.int .i64 0) :=
  ⟨h.free, h.at_ (i := 0) rfl, h.at_ (i := 1) rfl, h.at_ (i := 2) rfl, h.at_ (i := 3) rfl, h.at_ (i := 4) rfl, h.at_ (i := 5) rfl, h.at_ (i := 6) rfl, h.at_ (i := 7) rfl⟩
set_option maxHeartbeats 100000000 in
set_option maxRecDepth 100000 in
theorem line_any (w : World) (N bt o : Nat) (A : Option Addr) (cf : Nat) (fs : List Fl) (ord : List Int) (least p : Int) (cv ev : Value) (r1s r2s : List Nat) (h : TT w N bt o A cf fs ord least p cv ev r1s r2s) (hl : r1s.length = fs.length) (hn : fs.length ≤ 128) (hs : SOK (sF fs ord) fs.length) (i d : Nat) (hd0 : 0 < d) (hd : i + d ≤ fs.length) (j : Nat) (hj : j = i + d) :
    Calls Try.prog 63 #[.pointer (some ⟨bt, 0, none⟩), .int .i64 i, .int .i64 j] w (LinePost w fs ord least p i d) := by
  have hc1 := h.tb.t.at_ (i := 1) rfl
  have hc2 := h.tb.t.at_ (i := 2) rfl
  have hc3 := h.tb.t.at_ (i := 3) rfl
  obtain ⟨gc, cc, ecv, hcc, hc4, hc5⟩ := h.cost (a := i) (j := j) (by omega) (by omega)
  obtain ⟨ge, ce, eev, hce, hc6, hc7⟩ := h.centre (a := i) (j := j) (by omega) (by omega)
  have HT := Aside0.mk h
  have HO := Aside0.mk h.tb.o
  have HSO := Aside0.mk hs
  have HOL := Aside0.mk h.tb.ol; clear h
  subst ecv
  subst eev
  obtain ⟨x, hx⟩ : ∃ z, z = (crowF (sF fs ord) least p fs.length i).getD j 0 := ⟨_, rfl⟩
  obtain ⟨y, hy⟩ : ∃ z, z = (erowF (sF fs ord) p fs.length i).getD j 0 := ⟨_, rfl⟩
  obtain ⟨r1, hr1⟩ : ∃ z, z = r1s.getD i 0 := ⟨_, rfl⟩
  obtain ⟨r2, hr2⟩ : ∃ z, z = r2s.getD i 0 := ⟨_, rfl⟩
  rw [← hr1] at hc4 hc5
  rw [← hr2] at hc6 hc7
  rw [← hx] at hc5
  rw [← hy] at hc7
  have HXY := Aside0.mk (And.intro hx hy); clear hx hy hr1 hr2
  rw [hl] at hc2 hc3 hcc hce HT
  obtain ⟨n, hn0⟩ : ∃ z, z = fs.length := ⟨_, rfl⟩
  rw [← hn0] at hc1 hc2 hc3 hc4 hc6 hn hd hcc hce
  have HN := Aside0.mk hn0; clear hn0 hl
  have HC := Aside0.mk (show w.cell? ⟨bt, 1, none⟩ = some (.slice (some ⟨o, 0, none⟩) n n) ∧ w.cell? ⟨bt, 2, none⟩ = some (.slice (some ⟨gc, 0, none⟩) n cc) ∧ w.cell? ⟨gc, i, none⟩ = some (.slice (some ⟨r1, 0, none⟩) (n + 1) (n + 1)) ∧ w.cell? ⟨r1, j, none⟩ = some (.int .i64 x) ∧ w.cell? ⟨bt, 3, none⟩ = some (.slice (some ⟨ge, 0, none⟩) n ce) ∧ w.cell? ⟨ge, i, none⟩ = some (.slice (some ⟨r2, 0, none⟩) (n + 1) (n + 1)) ∧ w.cell? ⟨r2, j, none⟩ = some (.int .i64 y) from ⟨hc1, hc2, hc4, hc5, hc3, hc6, hc7⟩)
  clear hc1 hc2 hc3 hc4 hc5 hc6 hc7
  have HA := Aside0.mk (fun W (hW : Below w.heap.size w W) => at_nat2 W bt o A cf fs ord _ _ (HT.out.tb.below hW) i (by rw [← HN.out]; omega) (i : Int) rfl)
  have HB := Aside0.mk (fun W (hW : Below w.heap.size w W) (k : Nat) (hk : k < n) (z : Int) (hz : z = k) => at_nat2 W bt o A cf fs ord _ _ (HT.out.tb.below hW) k (by rw [← HN.out]; exact hk) z hz)
  have HCL := Aside0.mk (fun W (hW : Below w.heap.size w W) (c : Nat) => clone_any W o i d c ord (HO.out.below hW) (by rw [HOL.out, ← HN.out]; exact hd) (by rw [HOL.out, ← HN.out]; omega))
  obtain ⟨f1, hf1⟩ : ∃ z, z = sF fs ord i := ⟨_, rfl⟩
  rw [← hf1] at HA
  obtain ⟨p0, p1, p2, p3, p4, p5⟩ := f1
  dsimp only at HA
  have HF1 := Aside0.mk hf1; clear hf1
  have k3 : j - i = d := by omega
  have k4 : i < n := by omega
  have q1 : (i : Int) ≤ j := by omega
  have q2 : (j : Int) ≤ n := by omega
  have q3 : (j : Int) < (n : Int) + 1 := by omega
  have q4 : ¬ n = i := by omega
  have q6 : (0 : Int) ≤ j := by omega
  have q7 : (i : Int) < n := by omega
  have HJ := Aside0.mk hj; clear hj
  have fkind := fl_kind
  have fgr := fl_gr
  have Z := below_alloc (Below.refl w.heap.size w) (.cells #[.int .u8 0, .int .u8 0, .int .u8 0, .int .u8 0, .slice none 0 0, .int .i64 0, .int .i64 0, .int .i64 0] 37)
  have B6 := Blk.new w [.int .u8 0, .int .u8 0, .int .u8 0, .int .u8 0, .slice none 0 0, .int .i64 0, .int .i64 0, .int .i64 0] 37
  go_enter Try.func63, Try.ntmps63
  go_upto_region 1 with fail
  obtain ⟨w2, hw2⟩ : ∃ z, z = w.alloc (.cells #[.int .u8 0, .int .u8 0, .int .u8 0, .int .u8 0, .slice none 0 0, .int .i64 0, .int .i64 0, .int .i64 0] 37) := ⟨_, rfl⟩
  rw [← hw2] at Z B6 ⊢
  have HZ := Aside0.mk (And.intro Z B6); clear Z B6 hw2
  have hw2s := HZ.out.2.lt
  obtain ⟨b6, hb6⟩ : ∃ z, z = w.heap.size := ⟨_, rfl⟩
  rw [← hb6] at ⊢
  have HB6 := Aside0.mk hb6; clear hb6
  go_cut [7] from 9 to 41 (fun v w3 => ∃ b7 g7 cap7 : Nat, v = .pointer (some ⟨b7, 0, none⟩) ∧ Aside0 (Blk w3 b7 [.int .u8 p0, .int .u8 p1, .int .u8 p2, .int .u8 p3, .slice (some ⟨g7, 0, none⟩) d cap7, .int .i64 0, .int .i64 y, .int .i64 x] 37 ∧ w3.ownsRow w.heap.size 3 1 (.slice (some ⟨g7, 0, none⟩) d cap7) d (ints ((ord.drop i).take d)) ∧ Below w.heap.size w w3 ∧ Blk w3 b6 [.int .u8 0, .int .u8 0, .int .u8 0, .int .u8 0, .slice none 0 0, .int .i64 0, .int .i64 0, .int .i64 0] 37 ∧ w.heap.size < b7 ∧ w.heap.size < g7))
  case first =>
    have hS0 : ∀ W, Below w2.heap.size w2 W → Aside0 (Below w2.heap.size w2 W) ∧ W.cell? ⟨bt, 1, none⟩ = some (.slice (some ⟨o, 0, none⟩) n n) ∧ W.cell? ⟨bt, 2, none⟩ = some (.slice (some ⟨gc, 0, none⟩) n cc) ∧ W.cell? ⟨gc, i, none⟩ = some (.slice (some ⟨r1, 0, none⟩) (n + 1) (n + 1)) ∧ W.cell? ⟨r1, j, none⟩ = some (.int .i64 x) ∧ W.cell? ⟨bt, 3, none⟩ = some (.slice (some ⟨ge, 0, none⟩) n ce) ∧ W.cell? ⟨ge, i, none⟩ = some (.slice (some ⟨r2, 0, none⟩) (n + 1) (n + 1)) ∧ W.cell? ⟨r2, j, none⟩ = some (.int .i64 y) := fun W hW => ⟨⟨hW⟩, cells7 (below_step HZ.out.1 hW) HC.out⟩
    have HS0 := Aside0.mk hS0; clear hS0
    have HA2 := Aside0.mk (fun W (hW : Below w2.heap.size w2 W) => HA.out W (below_step HZ.out.1 hW))
    have HCL2 := Aside0.mk (fun W (hW : Below w2.heap.size w2 W) (c : Nat) => HCL.out W (below_step HZ.out.1 hW) c)
    go_region_held3 (fun W => Aside0 (Below w2.heap.size w2 W) ∧ W.cell? ⟨bt, 1, none⟩ = some (.slice (some ⟨o, 0, none⟩) n n) ∧ W.cell? ⟨bt, 2, none⟩ = some (.slice (some ⟨gc, 0, none⟩) n cc) ∧ W.cell? ⟨gc, i, none⟩ = some (.slice (some ⟨r1, 0, none⟩) (n + 1) (n + 1)) ∧ W.cell? ⟨r1, j, none⟩ = some (.int .i64 x) ∧ W.cell? ⟨bt, 3, none⟩ = some (.slice (some ⟨ge, 0, none⟩) n ce) ∧ W.cell? ⟨ge, i, none⟩ = some (.slice (some ⟨r2, 0, none⟩) (n + 1) (n + 1)) ∧ W.cell? ⟨r2, j, none⟩ = some (.int .i64 y))
      ((refine HS0.out _ ?_; with_reducible (first
        | exact below_drew (Below.refl _ _)
        | exact below_drew (below_alloc (Below.refl _ _) _)
        | exact HB7.out
        | exact HB5.out
        | exact below_alloc HB7.out _
        | exact below_alloc HB5.out _
        | exact below_alloc (below_drew (Below.refl _ _)) _
        | (refine Below.setCell (Below.setCell (Below.setCell (Below.setCell (Below.setCell (Below.setCell (Below.setCell (Below.setCell HB7.out ?_ _) ?_ _) ?_ _) ?_ _) ?_ _) ?_ _) ?_ _) ?_ _ <;> first | exact Nat.le_refl _ | exact HB5.out.size))))
      (first
        | ((with_reducible refine (HA2.out _ (hb_of (by assumption))).mono ?_); rintro e5 w5 ⟨rfl, hb5⟩; have HB5 := Aside0.mk (below_step (hb_of (by assumption)) hb5); (first | (have FB := Aside0.mk (by with_reducible exact Blk.below (Blk.drew (Blk.new _ [.int .u8 0, .int .u8 0, .int .u8 0, .int .u8 0, .slice none 0 0, .int .i64 0, .int .i64 0, .int .i64 0] 37)) hb5)) | skip); clear hb5)
        | ((with_reducible refine (HCL2.out _ (hb_of (by assumption)) _).mono ?_); rintro e7 w7 ⟨g7, cap7, rfl, ho7, hb7⟩; have HB7 := Aside0.mk (below_step (hb_of (by assumption)) hb7); have HO7 := Aside0.mk (own_lower ho7 (hb_of (by assumption)).size); (first | (have FD := Aside0.mk (Blk.below FB.out hb7); obtain ⟨FDf, FD0, FD1, FD2, FD3, FD4, FD5, FD6, FD7⟩ := blk8 FD.out) | (have FD := Aside0.mk (by with_reducible exact Blk.below (Blk.new _ [.int .u8 0, .int .u8 0, .int .u8 0, .int .u8 0, .slice none 0 0, .int .i64 0, .int .i64 0, .int .i64 0] 37) hb7); obtain ⟨FDf, FD0, FD1, FD2, FD3, FD4, FD5, FD6, FD7⟩ := blk8 FD.out) | skip); clear ho7 hb7))
    all_goals go_wp2_with fail
    all_goals go_meet
    · case rel => exact ⟨_, _, _, rfl, ⟨fin_new HZ.out.1 HZ.out.2 HB7.out HO7.out HB6.out⟩⟩
    · case rel =>
        have hlt : w.heap.size < w5.heap.size := Nat.lt_of_lt_of_le hw2s HB5.out.size
        exact ⟨_, _, _, rfl, ⟨fin_set HZ.out.1 HZ.out.2 HB7.out HO7.out HB6.out FD.out hlt⟩⟩
    · case rel => exact ⟨_, _, _, rfl, ⟨fin_set HZ.out.1 HZ.out.2 HB7.out HO7.out HB6.out FD.out hw2s⟩⟩
  case rest =>
  obtain ⟨b7, g7, cap7, rfl, HR7⟩ := hcut
  obtain ⟨w3, hw3⟩ : ∃ z, z = wc := ⟨_, rfl⟩
  rw [← hw3] at HR7 ⊢
  clear hw3 HA HCL
  have hmd := fun (e : Nat) (he : e ≤ d) => massD_bd HSO.out i e (by rw [← HN.out]; omega)
  have HMD := Aside0.mk hmd; clear hmd
  go_wp2_with fail
  go_loopw [8] (fun v wr => ∃ e : Nat, v = .int .i64 ((i : Int) + e) ∧ e ≤ d ∧ Aside0 (Blk wr b7 [.int .u8 p0, .int .u8 p1, .int .u8 p2, .int .u8 p3, .slice (some ⟨g7, 0, none⟩) d cap7, .int .i64 (massD (sF fs ord) i e), .int .i64 y, .int .i64 x] 37 ∧ wr.ownsRow w.heap.size 3 1 (.slice (some ⟨g7, 0, none⟩) d cap7) d (ints ((ord.drop i).take d)) ∧ Below w.heap.size w wr ∧ Blk wr b6 [.int .u8 0, .int .u8 0, .int .u8 0, .int .u8 0, .slice none 0 0, .int .i64 0, .int .i64 0, .int .i64 0] 37)) (fun v _ => j - (intOf v).toNat)
  case atStart => exact ⟨0, by go_num, by omega, ⟨HR7.out.1, HR7.out.2.1, HR7.out.2.2.1, HR7.out.2.2.2.1⟩⟩
  case round =>
    obtain ⟨e, rfl, he, HX⟩ := hrel
    have hb7 : w.heap.size < b7 := HR7.out.2.2.2.2.1
    have hg7 : w.heap.size < g7 := HR7.out.2.2.2.2.2
    by_cases hlt : e < d
    · have hlti : (i : Int) + e < j := by have := HJ.out; omega
      have HQ := Aside0.mk (fun W (hW : Below w.heap.size w W) => HB.out W hW (i + e) (by omega) ((i : Int) + e) (by omega))
      have hg := HSO.out (i + e) (by rw [← HN.out]; omega)
      obtain ⟨f4, hf4⟩ : ∃ z, z = sF fs ord (i + e) := ⟨_, rfl⟩
      rw [← hf4] at HQ hg
      obtain ⟨e0, e1, e2, e3, e4, e5⟩ := f4
      dsimp only at HQ hg
      obtain ⟨_, he51, he52⟩ := hg
      have hM := HMD.out e (by omega)
      have hm1 : massD (sF fs ord) i (e + 1) = massD (sF fs ord) i e + e5 := by
        show massD (sF fs ord) i e + (sF fs ord (i + e)).gr = _
        rw [← hf4]
      have HM1 := Aside0.mk hm1; clear hm1 hf4
      have c5 := HX.out.1.at_ (i := 5) rfl
      have ff := HX.out.1.free
      obtain ⟨M, hMM⟩ : ∃ z, z = massD (sF fs ord) i e := ⟨_, rfl⟩
      rw [← hMM] at c5 hM
      have HMM := Aside0.mk hMM; clear hMM
      obtain ⟨hM0, hM1⟩ := hM
      go_upto_region 5 with fail
      go_region_with ((with_reducible refine (HQ.out _ (below_drew HX.out.2.2.1)).mono ?_); rintro e9 w9 ⟨rfl, hb9⟩; have h9 := below_step (below_drew (Below.refl _ _)) hb9; have B9 := HX.out.1.below h9; have c59 := B9.at_ (i := 5) rfl; rw [← HMM.out] at c59; have ff9 := B9.free; have H9 := Aside0.mk (And.intro B9 (And.intro (pw_own_below HX.out.2.1 h9) (And.intro (below_step HX.out.2.2.1 h9) (HX.out.2.2.2.below h9)))); clear h9 B9 hb9)
      all_goals go_wp2_with fail
      all_goals go_roundw
      all_goals first
        | (case rel =>
            refine ⟨e + 1, by go_num, by omega, ⟨?_, ?_, ?_, ?_⟩⟩
            · rw [HM1.out, ← HMM.out]; exact H9.out.1.set 5 (.int .i64 (M + e5))
            · exact own_move H9.out.2.1 (fun k hk => by have hk' : k = g7 := (by simpa [Value.ownBlock] using hk.symm); exact Below.heap_setCell _ _ _ _ (by obtain ⟨cl, hcl⟩ := own_typed H9.out.2.1 k hk; intro he; have h37 := H9.out.1; unfold Blk at h37; rw [show b7 = k from he.symm, hcl] at h37; injection h37 with h37; injection h37 with _ h38; exact absurd h38 (by decide)))
            · exact H9.out.2.2.1.setCell (by show w.heap.size ≤ b7; omega) _
            · exact H9.out.2.2.2.far (by show b6 ≠ b7; rw [HB6.out]; omega) _)
        | skip
      all_goals first | (case measure => simp [intOf]; have := HJ.out; omega) | skip
    · have hlti : ¬ (i : Int) + e < j := by have := HJ.out; omega
      have hed : e = d := by have := HJ.out; omega
      obtain ⟨M, hMM⟩ : ∃ z, z = massD (sF fs ord) i e := ⟨_, rfl⟩
      have HMM := Aside0.mk hMM
      have HX1 := HX.out.1
      rw [← hMM] at HX1
      clear hMM
      have t0 := HX1.at_ (i := 0) rfl
      have t1 := HX1.at_ (i := 1) rfl
      have t2 := HX1.at_ (i := 2) rfl
      have t3 := HX1.at_ (i := 3) rfl
      have t4 := HX1.at_ (i := 4) rfl
      have t5 := HX1.at_ (i := 5) rfl
      have t6 := HX1.at_ (i := 6) rfl
      have t7 := HX1.at_ (i := 7) rfl
      have z0 := HX.out.2.2.2.at_ (i := 0) rfl
      have z1 := HX.out.2.2.2.at_ (i := 1) rfl
      have z2 := HX.out.2.2.2.at_ (i := 2) rfl
      have z3 := HX.out.2.2.2.at_ (i := 3) rfl
      have z4 := HX.out.2.2.2.at_ (i := 4) rfl
      have z5 := HX.out.2.2.2.at_ (i := 5) rfl
      have z6 := HX.out.2.2.2.at_ (i := 6) rfl
      have z7 := HX.out.2.2.2.at_ (i := 7) rfl
      have zf := HX.out.2.2.2.free
      have HED := Aside0.mk hed
      have hz8 := (((((((HX.out.2.2.2.set 0 (.int .u8 p0)).set 1 (.int .u8 p1)).set 2 (.int .u8 p2)).set 3 (.int .u8 p3)).set 4 (.slice (some ⟨g7, 0, none⟩) d cap7)).set 5 (.int .i64 M)).set 6 (.int .i64 y)).set 7 (.int .i64 x)
      have hk8 := ((((((((Kp.refl (fun k => k = b6) wr).setCell (p := ⟨b6, 0, none⟩) (fun _ => rfl) (.int .u8 p0)).setCell (p := ⟨b6, 1, none⟩) (fun _ => rfl) (.int .u8 p1)).setCell (p := ⟨b6, 2, none⟩) (fun _ => rfl) (.int .u8 p2)).setCell (p := ⟨b6, 3, none⟩) (fun _ => rfl) (.int .u8 p3)).setCell (p := ⟨b6, 4, none⟩) (fun _ => rfl) (.slice (some ⟨g7, 0, none⟩) d cap7)).setCell (p := ⟨b6, 5, none⟩) (fun _ => rfl) (.int .i64 M)).setCell (p := ⟨b6, 6, none⟩) (fun _ => rfl) (.int .i64 y)).setCell (p := ⟨b6, 7, none⟩) (fun _ => rfl) (.int .i64 x)
      have HZ8 := Aside0.mk (And.intro hz8 hk8)
      clear HX1 hed hz8 hk8
      go_wp2_with fail
      (try simp only [Exit.inBlock, Exit.then])
      refine bodyPost_ret (v := .agg #[.int .u8 p0, .int .u8 p1, .int .u8 p2, .int .u8 p3, .slice (some ⟨g7, 0, none⟩) d cap7, .int .i64 M, .int .i64 y, .int .i64 x]) (results_cell_row rfl _ _ b6 37 #[.int .u8 p0, .int .u8 p1, .int .u8 p2, .int .u8 p3, .slice (some ⟨g7, 0, none⟩) d cap7, .int .i64 M, .int .i64 y, .int .i64 x] (0, 0) _ rfl HZ8.out.1 Try.underlying37 rfl (by kernel_rfl)) rfl ?_
      refine ⟨.slice (some ⟨g7, 0, none⟩) d cap7, ?_, ?_, ?_⟩
      · rw [← HF1.out, HMM.out, HED.out, HXY.out.1, HXY.out.2, HJ.out]
      · exact own_move HX.out.2.1 (fun k hk => HZ8.out.2.block k (by obtain ⟨cl, hcl⟩ := own_typed HX.out.2.1 k hk; exact lt_of_block hcl) (by have hk' : k = g7 := (by simpa [Value.ownBlock] using hk.symm); rw [HB6.out]; omega))
      · exact ((Kp.of_below HX.out.2.2.1 : Kp (fun k => k = b6) w wr).step HZ8.out.2).below_of (fun i hi => by rw [hi, HB6.out]; exact Nat.le_refl _)
end Go.Proofs.Ythkfahkkcjagdaa
end
section
namespace Go.Proofs.Ythkfahkkcjagdaa
open Go.RowKit Go.Proofs.YthkfahkkcjagdaaW.PrintWords Go.Proofs.YthkfahkkcjagdaaW.PrintMore Go.Proofs.YthkfahkkcjagdaaW.PrintLast

/-- The first place of the least value. -/
def kB (f : Nat → Int) : Nat → Nat
  | 0 => 0
  | m + 1 => if f m < f (kB f m) then m else kB f m
/-- The first place from d on where P holds. -/
def fdF (P : Nat → Bool) : Nat → Nat → Nat
  | 0, d => d
  | k + 1, d => if P d = true then d else fdF P k (d + 1)
theorem fdF_spec (P : Nat → Bool) : ∀ (k d : Nat), (∃ e, d ≤ e ∧ e < d + k ∧ P e = true) → P (fdF P k d) = true ∧ d ≤ fdF P k d ∧ fdF P k d < d + k
  | 0, d, h => by obtain ⟨e, h1, h2, _⟩ := h; omega
  | k + 1, d, h => by
    unfold fdF
    by_cases h1 : P d = true
    · rw [if_pos h1]; exact ⟨h1, by omega, by omega⟩
    · rw [if_neg h1]
      have := fdF_spec P k (d + 1) (by
        obtain ⟨e, h2, h3, h4⟩ := h
        refine ⟨e, ?_, by omega, h4⟩
        rcases (show e = d ∨ d < e by omega) with rfl | h5
        · exact absurd h4 h1
        · omega)
      exact ⟨this.1, by omega, by omega⟩
/-- Does the first line of a best division end behind d + 1 fleeces? -/
def isD (s : Nat → Fl) (least p : Int) (n k i d : Nat) : Bool := decide (addO (cO s least p i (d + 1)) (restO s least p n k (i + d + 1)) = restO s least p n (k + 1) i)
def cutD (s : Nat → Fl) (least p : Int) (n k i : Nat) : Nat := fdF (isD s least p n k i) (n - i) 0
/-- The runs of the best division: where they begin, how long they are. -/
def planF (s : Nat → Fl) (least p : Int) (n : Nat) : Nat → Nat → List (Nat × Nat)
  | 0, _ => []
  | k + 1, i => (i, cutD s least p n k i + 1) :: planF s least p n k (i + cutD s least p n k i + 1)
section
variable {s : Nat → Fl} {least p : Int} {n : Nat}
theorem cut_ok {k i : Nat} (h : restO s least p n (k + 1) i ≠ none) : isD s least p n k i (cutD s least p n k i) = true ∧ cutD s least p n k i < n - i := by
  have hv : ∃ v, restO s least p n (k + 1) i = some v := by
    cases e : restO s least p n (k + 1) i with
    | none => exact absurd e h
    | some v => exact ⟨v, rfl⟩
  obtain ⟨v, hv⟩ := hv
  have h1 := hv
  unfold restO at h1
  obtain ⟨⟨d, hd, e⟩, _⟩ := minO_le _ _ _ h1
  have := fdF_spec (isD s least p n k i) (n - i) 0 ⟨d, by omega, by omega, by unfold isD; rw [hv]; exact decide_eq_true e⟩
  exact ⟨this.1, by have := this.2.2; unfold cutD; omega⟩
theorem cut_some {k i : Nat} (h : restO s least p n (k + 1) i ≠ none) : cO s least p i (cutD s least p n k i + 1) ≠ none ∧ restO s least p n k (i + cutD s least p n k i + 1) ≠ none := by
  have h1 := (cut_ok h).1
  unfold isD at h1
  rw [decide_eq_true_eq] at h1
  constructor
  · intro e; rw [e] at h1; exact h h1.symm
  · intro e
    rw [e] at h1
    have : addO (cO s least p i (cutD s least p n k i + 1)) none = none := by cases cO s least p i (cutD s least p n k i + 1) <;> rfl
    rw [this] at h1
    exact h h1.symm
end
/-- The cells of a line in memory. -/
def lcs (s : Nat → Fl) (least p : Int) (n : Nat) (l : Nat × Nat × Nat × Nat) : List Value :=
  [.int .u8 (s l.2.2.1).k0, .int .u8 (s l.2.2.1).k1, .int .u8 (s l.2.2.1).k2, .int .u8 (s l.2.2.1).k3, .slice (some ⟨l.1, 0, none⟩) l.2.2.2 l.2.1,
    .int .i64 (massD s l.2.2.1 l.2.2.2), .int .i64 ((erowF s p n l.2.2.1).getD (l.2.2.1 + l.2.2.2) 0), .int .i64 ((crowF s least p n l.2.2.1).getD (l.2.2.1 + l.2.2.2) 0)]
/-- A plan in memory: its lines' blocks and rooms, where each begins, how long it is. -/
structure PlanM (w : World) (N : Nat) (v : Value) (s : Nat → Fl) (ord : List Int) (least p : Int) (n : Nat) (ls : List (Nat × Nat × Nat × Nat)) : Prop where
  v : w.ownsRow N 37 8 v ls.length (ls.flatMap (lcs s least p n))
  f : ∀ l ∈ ls, w.ownsRow N 3 1 (.slice (some ⟨l.1, 0, none⟩) l.2.2.2 l.2.1) l.2.2.2 (ints ((ord.drop l.2.2.1).take l.2.2.2))
def bestF (s : Nat → Fl) (least p : Int) (n : Nat) (m : Nat) : Int := pE (restO s least p n m 0)
def bestK (s : Nat → Fl) (least p : Int) (n most : Nat) : Nat := kB (bestF s least p n) (most + 1)
def LinesPost (w : World) (fs : List Fl) (l least p : Int) (e : Ending) (w' : World) : Prop :=
  Below w.heap.size w w' ∧
  if errE fs l least p = 0 then
    if bestF (sF fs (ordF fs)) least p fs.length (bestK (sF fs (ordF fs)) least p fs.length l.toNat) < 4611686018427387904 then
      ∃ (v : Value) (ls : List (Nat × Nat × Nat × Nat)), e = .returned (.tuple #[v, .int .i64 (bestF (sF fs (ordF fs)) least p fs.length (bestK (sF fs (ordF fs)) least p fs.length l.toNat)), .int .i64 0]) ∧
        PlanM w' w.heap.size v (sF fs (ordF fs)) (ordF fs) least p fs.length ls ∧ ls.map (fun x => (x.2.2.1, x.2.2.2)) = planF (sF fs (ordF fs)) least p fs.length (bestK (sF fs (ordF fs)) least p fs.length l.toNat) 0
    else e = .returned (.tuple #[.slice none 0 0, .int .i64 0, .int .i64 13])
  else e = .returned (.tuple #[.slice none 0 0, .int .i64 0, .int .i64 (errE fs l least p)])
theorem info37 : (Try.prog.info? 37).map (fun i => (i.zero, i.size, i.bytes)) = some (some (.agg #[.int .u8 0, .int .u8 0, .int .u8 0, .int .u8 0, .slice none 0 0, .int .i64 0, .int .i64 0, .int .i64 0]), 8, 56) := by kernel_rfl
theorem PlanM.below {w w' : World} {N : Nat} {v : Value} {s : Nat → Fl} {ord : List Int} {least p : Int} {n : Nat} {ls : List (Nat × Nat × Nat × Nat)} (h : PlanM w N v s ord least p n ls) (b : Below w.heap.size w w') : PlanM w' N v s ord least p n ls :=
  ⟨pw_own_below h.v b, fun l hl => pw_own_below (h.f l hl) b⟩
end Go.Proofs.Ythkfahkkcjagdaa
end
section
namespace Go.Proofs.Ythkfahkkcjagdaa
open Go.RowKit Go.Proofs.YthkfahkkcjagdaaW.PrintWords Go.Proofs.YthkfahkkcjagdaaW.PrintMore Go.Proofs.YthkfahkkcjagdaaW.PrintLast

theorem fdF_least (P : Nat → Bool) : ∀ (k d e : Nat), d ≤ e → e < d + k → P e = true → fdF P k d ≤ e
  | 0, d, e, h1, h2, _ => by omega
  | k + 1, d, e, h1, h2, h3 => by
    unfold fdF
    by_cases h : P d = true
    · rw [if_pos h]; exact h1
    · rw [if_neg h]
      rcases (show e = d ∨ d < e by omega) with rfl | h4
      · exact absurd h3 h
      · exact fdF_least P k (d + 1) e (by omega) (by omega) h3
theorem PlanM.lower {w : World} {N N' : Nat} {v : Value} {s : Nat → Fl} {ord : List Int} {least p : Int} {n : Nat} {ls : List (Nat × Nat × Nat × Nat)} (h : PlanM w N' v s ord least p n ls) (hN : N ≤ N') : PlanM w N v s ord least p n ls :=
  ⟨own_lower h.v hN, fun l hl => own_lower (h.f l hl) hN⟩
theorem wpl_line {ops : Array Oper} {rest : List Oper} {o : Oper} {a : Act} {Q : Exit → Act → World → Prop} {W : World} (w6 : World) (hgd : o.guard = none) (sl x : Operand)
    (ho : o.op = .call { callee := .builtin .append, args := #[sl, x], argTypes := #[27, 27] }) (v : Value) (s : Nat → Fl) (ord : List Int) (least p : Int) (n : Nat) (ls : List (Nat × Nat × Nat × Nat)) (hp : PlanM W w6.heap.size v s ord least p n ls)
    (l : Nat × Nat × Nat × Nat) (b : Nat) (hs : a.eval sl = v) (hx : a.eval x = .slice (some ⟨b, 0, none⟩) 1 1) (hb : W.heap[b]? = some (.cells (lcs s least p n l).toArray 37 (0, 0)))
    (hf : W.ownsRow w6.heap.size 3 1 (.slice (some ⟨l.1, 0, none⟩) l.2.2.2 l.2.1) l.2.2.2 (ints ((ord.drop l.2.2.1).take l.2.2.2))) (hl : ls.length ≤ 1000) (hB : Below w6.heap.size w6 W)
    (h : ∀ g cap w', PlanM w' w6.heap.size (.slice (some ⟨g, 0, none⟩) (ls.length + 1) cap) s ord least p n (ls ++ [l]) → Below w6.heap.size w6 w' → wpList Try.prog ops Q rest (a.put o.dst (.slice (some ⟨g, 0, none⟩) (ls.length + 1) cap)) w') :
    wpList Try.prog ops Q (o :: rest) a W := by
  obtain ⟨i, hi, he⟩ := Option.map_eq_some_iff.1 info37
  simp only [Prod.mk.injEq] at he
  refine wpList_append_lies W hgd sl x 27 ho w6.heap.size 37 i _ 8 56 Try.underlying27 hi he.1 he.2.1 he.2.2 rfl (by decide) v ls.length _ hs hp.v ⟨b, 0, none⟩ 1 1 (lcs s least p n l) hx rfl (World.news_of_block hb) (by simp [lcs, Value.oneCell']) (by decide) (by unfold maxLen; omega) (by omega) hB.size W.heap.size rfl ?_
  intro g cap w' h1 h2 h3 h4
  refine h g cap w' ⟨?_, fun l' hl' => ?_⟩ ⟨h2.os.trans hB.os, h2.tape.trans hB.tape, h2.output.trans hB.output, Nat.le_trans hB.size h2.size, fun k hk => ?_⟩
  · rw [List.flatMap_append, List.length_append]
    have e1 : [l].flatMap (lcs s least p n) = lcs s least p n l := by simp
    rw [e1]
    exact h1
  · have hr : W.ownsRow w6.heap.size 3 1 (.slice (some ⟨l'.1, 0, none⟩) l'.2.2.2 l'.2.1) l'.2.2.2 (ints ((ord.drop l'.2.2.1).take l'.2.2.2)) := by
      rcases List.mem_append.1 hl' with h5 | h5
      · exact hp.f l' h5
      · rw [List.mem_singleton.1 h5]; exact hf
    refine own_move hr fun k hk => h2.block k ?_ ?_
    · obtain ⟨c, hc⟩ := own_typed hr k hk
      exact lt_of_block hc
    · intro e
      obtain ⟨c1, hc1⟩ := own_typed hr k hk
      obtain ⟨c2, hc2⟩ := own_typed hp.v k e.symm
      rw [hc1] at hc2
      injection hc2 with hc2
      injection hc2 with _ h6
      exact absurd h6 (by decide)
  · refine (h2.block k (Nat.lt_of_lt_of_le hk hB.size) (fun e => ?_)).trans (hB.block k hk)
    rcases hp.v.2 with ⟨e1, _⟩ | ⟨g', cap', cur, e1, hg, _⟩
    · rw [e1] at e; simp [Value.ownBlock] at e
    · rw [e1] at e
      simp only [Value.ownBlock, Option.some.injEq] at e
      omega
set_option maxHeartbeats 8000000 in
set_option maxRecDepth 100000 in
theorem lines_bad (w : World) (A : Option Addr) (c : Nat) (fs : List Fl) (h : kF.C w A fs.length fs) (hk : KOK fs) (l least p : Int) (hE : errE fs l least p ≠ 0) :
    Calls Try.prog 19 #[.slice A fs.length c, .agg #[.int .i64 l, .int .i64 least, .int .i64 p]] w (LinesPost w fs l least p) := by
  have b1 := below_alloc (Below.refl w.heap.size w) (.cells #[.int .i64 l, .int .i64 least, .int .i64 p] 24)
  have q1 := Blk.new w [.int .i64 l, .int .i64 least, .int .i64 p] 24
  have s0 := q1.at_ (i := 0) rfl
  have s1 := q1.at_ (i := 1) rfl
  have s2 := q1.at_ (i := 2) rfl
  have hl := laid_any _ A c fs (Kd.C_below h b1) hk l least p
  have HB := Aside0.mk b1
  have HL := Aside0.mk hl
  have HE := Aside0.mk hE
  obtain ⟨e0, he0⟩ : ∃ z, z = errE fs l least p := ⟨_, rfl⟩
  have hz : (e0 != 0) = true := by rw [he0]; simpa using hE
  have HE0 := Aside0.mk he0
  clear h hk b1 q1 hl hE he0
  go_enter Try.func19, Try.ntmps19
  go_wp2_with ((with_reducible refine HL.out.mono ?_); rintro e5 w5 hp5; unfold LaidPost at hp5; rw [if_neg HE.out] at hp5; obtain ⟨hb5, rfl⟩ := hp5; have HB5 := Aside0.mk (below_step HB.out hb5); clear hb5; rw [← HE0.out])
  refine bodyPost_ret (v := .tuple #[.slice none 0 0, .int .i64 0, .int .i64 e0]) (by simp [results, Try.results19, go_sem]) rfl ?_
  refine ⟨HB5.out, ?_⟩
  rw [if_neg HE.out, HE0.out]

set_option maxHeartbeats 8000000 in
set_option maxRecDepth 100000 in
theorem lines_good (w : World) (A : Option Addr) (c : Nat) (fs : List Fl) (h : kF.C w A fs.length fs) (hk : KOK fs) (l least p : Int) (hE : errE fs l least p = 0) :
    Calls Try.prog 19 #[.slice A fs.length c, .agg #[.int .i64 l, .int .i64 least, .int .i64 p]] w (LinesPost w fs l least p) := by
  have hE2 := hE
  unfold errE at hE2
  have hn : fs.length ≤ 128 := by
    rcases Nat.lt_or_ge 128 fs.length with h1 | h1
    · rw [if_pos h1] at hE2; omega
    · exact h1
  rw [if_neg (by omega)] at hE2
  have hsf : spOK l least p = true ∧ fs.all flOK = true := by
    by_cases h1 : spOK l least p = true ∧ fs.all flOK = true
    · exact h1
    · rw [if_neg h1] at hE2; omega
  clear hE2
  have hsp := hsf.1
  unfold spOK at hsp
  rw [decide_eq_true_eq] at hsp
  obtain ⟨most, rfl⟩ : ∃ m : Nat, l = m := ⟨l.toNat, by omega⟩
  have hm1 : 1 ≤ most := by omega
  have hm2 : most ≤ 16 := by omega
  have HSO := Aside0.mk (ordF_SOK hsf.2)
  have b1 := below_alloc (Below.refl w.heap.size w) (.cells #[.int .i64 most, .int .i64 least, .int .i64 p] 24)
  have q1 := Blk.new w [.int .i64 most, .int .i64 least, .int .i64 p] 24
  have s0 := q1.at_ (i := 0) rfl
  have s1 := q1.at_ (i := 1) rfl
  have s2 := q1.at_ (i := 2) rfl
  have hl := laid_any _ A c fs (Kd.C_below h b1) hk most least p
  have HB := Aside0.mk (And.intro b1 q1)
  have HL := Aside0.mk hl
  have HE := Aside0.mk hE
  obtain ⟨n, hn0⟩ : ∃ z, z = fs.length := ⟨_, rfl⟩
  obtain ⟨s, hs0⟩ : ∃ z, z = sF fs (ordF fs) := ⟨_, rfl⟩
  have hpost : ∀ e w', (Below w.heap.size w w' ∧ if bestF s least p n (bestK s least p n most) < 4611686018427387904 then
      ∃ (v : Value) (ls : List (Nat × Nat × Nat × Nat)), e = .returned (.tuple #[v, .int .i64 (bestF s least p n (bestK s least p n most)), .int .i64 0]) ∧
        PlanM w' w.heap.size v s (ordF fs) least p n ls ∧ ls.map (fun x => (x.2.2.1, x.2.2.2)) = planF s least p n (bestK s least p n most) 0
    else e = .returned (.tuple #[.slice none 0 0, .int .i64 0, .int .i64 13])) → LinesPost w fs most least p e w' := by
    intro e w' h
    unfold LinesPost
    rw [if_pos hE, Int.toNat_natCast, ← hs0, ← hn0]
    exact h
  have HPOST := Aside0.mk hpost
  have HN := Aside0.mk hn0
  have HSS := Aside0.mk hs0
  rw [← hn0] at hn
  clear h hk b1 q1 hl hE hsp hsf hpost
  rw [← hn0]
  rw [← hn0] at HL
  clear hn0 hs0
  go_enter Try.func19, Try.ntmps19
  go_upto_region 4 with ((with_reducible refine HL.out.mono ?_); rintro e5 w5 hp5; unfold LaidPost at hp5; rw [if_pos HE.out] at hp5; obtain ⟨hb5, bt, o, cv, ev, r1s, r2s, rfl, ht5, hr5⟩ := hp5; have H5 := Aside0.mk (And.intro ht5 (And.intro hr5 (And.intro (below_step HB.out.1 hb5) (HB.out.2.below hb5)))); clear hb5 ht5 hr5)
  have s0 := H5.out.2.2.2.at_ (i := 0) rfl
  have hle := least_any w5 _ bt o A c fs (ordF fs) least p cv ev r1s r2s H5.out.1 H5.out.2.1 (by rw [← HN.out]; exact hn) HSO.out most hm2
  have HLE := Aside0.mk hle; clear hle s1 s2
  go_upto_region 6 with ((with_reducible refine HLE.out.mono ?_); rintro e6 w6 ⟨bo, rs, rfl, hls6, hrl6⟩; have H6 := Aside0.mk (And.intro hls6 hrl6); clear hls6 hrl6)
  clear s0
  go_wp2_with fail
  go_loopw [10, 11, 31] (fun v10 _ v wr => ∃ m k : Nat, v10 = .int .i64 k ∧ v = .int .i64 m ∧ m ≤ most + 1 ∧ k ≤ most ∧ Aside0 (k = kB (bestF s least p n) m) ∧ ∃ q, wr = w6.drewN q) (fun _ _ v _ => most + 1 - (intOf v).toNat)
  case atStart => exact ⟨0, 0, rfl, rfl, by omega, by omega, ⟨rfl⟩, 0, rfl⟩
  case round =>
    obtain ⟨m, k, rfl, rfl, hm, hkm, HK, q, rfl⟩ := hrel
    have hrow : ∀ a, a < most + 1 → w6.cell? ⟨bo, a, none⟩ = some (.slice (some ⟨rs.getD a 0, 0, none⟩) (n + 1) (n + 1)) ∧ w6.cell? ⟨rs.getD a 0, 0, none⟩ = some (.int .i64 (bestF s least p n a)) := fun a ha => by
      have hrl := H6.out.2
      refine ⟨by rw [HN.out]; exact H6.out.1.row_at (by omega), ?_⟩
      have h1 := (H6.out.1.rr a (by omega)).at_ (ints_get _ (i := 0) (by rw [lrow_length]; omega))
      rw [lrow_get _ _ _ _ _ (by omega)] at h1
      rw [HSS.out, HN.out]
      exact h1
    obtain ⟨k1, k2⟩ := hrow k (by omega)
    obtain ⟨rk, hrk⟩ : ∃ z, z = rs.getD k 0 := ⟨_, rfl⟩
    obtain ⟨fk, hfk⟩ : ∃ z, z = bestF s least p n k := ⟨_, rfl⟩
    rw [← hrk] at k1 k2
    rw [← hfk] at k2
    have hrow2 := fun (h : m < most + 1) => hrow m (by omega)
    clear hrow hrk
    have HFK := Aside0.mk hfk; clear hfk
    by_cases hlt : m < most + 1
    · have hlti : (m : Int) < (most : Int) + 1 := by omega
      obtain ⟨m1, m2⟩ := hrow2 hlt
      obtain ⟨rm, hrm⟩ : ∃ z, z = rs.getD m 0 := ⟨_, rfl⟩
      obtain ⟨fm, hfm⟩ : ∃ z, z = bestF s least p n m := ⟨_, rfl⟩
      rw [← hrm] at m1 m2
      rw [← hfm] at m2
      clear hrow2 hrm
      have HFM := Aside0.mk hfm; clear hfm
      by_cases hc : fm < fk
      · have dc : decide (fm < fk) = true := decide_eq_true hc
        have HK2 : Aside0 (m = kB (bestF s least p n) (m + 1)) := ⟨by unfold kB; rw [← HK.out, ← HFM.out, ← HFK.out, if_pos hc]⟩
        go_upto_region 9 with fail
        go_quiet (fail)
        go_wp2_with fail
        go_roundw
        case rel => exact ⟨m + 1, m, rfl, by go_num, by omega, by omega, HK2, _, rfl⟩
        case measure => simp [intOf]; omega
      · have dc : decide (fm < fk) = false := decide_eq_false hc
        have HK2 : Aside0 (k = kB (bestF s least p n) (m + 1)) := ⟨by unfold kB; rw [← HK.out, ← HFM.out, ← HFK.out, if_neg hc]⟩
        go_upto_region 9 with fail
        go_quiet (fail)
        go_wp2_with fail
        go_roundw
        case rel => exact ⟨m + 1, k, rfl, by go_num, by omega, by omega, HK2, _, rfl⟩
        case measure => simp [intOf]; omega
    · have hlti : ¬ (m : Int) < (most : Int) + 1 := by omega
      clear hrow2
      have HKF : Aside0 (k = bestK s least p n most) := ⟨by rw [HK.out, show m = most + 1 by omega]; rfl⟩
      by_cases hc : fk < 4611686018427387904
      · have dc : decide (4611686018427387904 ≤ fk) = false := decide_eq_false (by omega)
        have hk0 : restO s least p n k 0 ≠ none := by
          intro e
          have h1 := HFK.out
          unfold bestF at h1
          rw [e] at h1
          rw [h1] at hc
          exact absurd hc (by decide)
        have hp0 : PlanM (w6.drewN q) w6.heap.size (.slice none 0 0) s (ordF fs) least p n [] := ⟨⟨rfl, .inl ⟨rfl, rfl⟩⟩, fun l hl => by simp at hl⟩
        have HP0 := Aside0.mk (And.intro hk0 hp0); clear hk0 hp0
        obtain ⟨wq, hwq⟩ : ∃ z, z = w6.drewN q := ⟨_, rfl⟩
        have HWQ : Aside0 (Below w6.heap.size w6 wq) := ⟨by rw [hwq]; exact bdN _ _⟩
        rw [← hwq] at HP0 ⊢
        have k1q : wq.cell? ⟨bo, k, none⟩ = some (.slice (some ⟨rk, 0, none⟩) (n + 1) (n + 1)) := by rw [hwq]; exact k1
        have k2q : wq.cell? ⟨rk, 0, none⟩ = some (.int .i64 fk) := by rw [hwq]; exact k2
        clear k1 k2 hwq
        go_wp2_with fail
        go_loopw [10, 13, 14, 15] (fun v10 v13 v14 _ wr => ∃ (kk i : Nat) (ls : List (Nat × Nat × Nat × Nat)), v10 = .int .i64 kk ∧ v14 = .int .i64 i ∧ i ≤ n ∧ kk ≤ most ∧ Aside0 (restO s least p n kk i ≠ none ∧ PlanM wr w6.heap.size v13 s (ordF fs) least p n ls ∧ ls.map (fun x => (x.2.2.1, x.2.2.2)) ++ planF s least p n kk i = planF s least p n k 0 ∧ Below w6.heap.size w6 wr ∧ ls.length + kk = k)) (fun v10 _ _ _ _ => (intOf v10).toNat)
        case atStart => exact ⟨k, 0, [], rfl, rfl, by omega, hkm, ⟨HP0.out.1, HP0.out.2, rfl, HWQ.out, by simp⟩⟩
        case round =>
          obtain ⟨kk, i, ls, rfl, rfl, hi, hkk, HX⟩ := hrel
          cases kk with
          | zero =>
            go_wp2_with fail
            refine bodyPost_ret (v := .tuple #[u13, .int .i64 fk, .int .i64 0]) (by simp [results, Try.results19, go_sem]) rfl ?_
            refine HPOST.out _ _ ⟨below_step (below_step H5.out.2.2.1 H6.out.1.b) HX.out.2.2.2.1, ?_⟩
            rw [if_pos (by rw [← HKF.out, ← HFK.out]; exact hc), ← HKF.out, ← HFK.out]
            refine ⟨u13, ls, rfl, HX.out.2.1.lower (Nat.le_trans H5.out.2.2.1.size H6.out.1.b.size), ?_⟩
            have := HX.out.2.2.1
            rw [planF, List.append_nil] at this
            exact this
          | succ k' =>
            have hcut := cut_ok HX.out.1
            have hsom := cut_some HX.out.1
            have HCUT := Aside0.mk (And.intro hcut.1 hsom)
            have hcl := hcut.2
            clear hcut hsom
            obtain ⟨cd, hcd⟩ : ∃ z, z = cutD s least p n k' i := ⟨_, rfl⟩
            rw [← hcd] at hcl HCUT
            have HCD := Aside0.mk hcd; clear hcd
            obtain ⟨wo, rfl⟩ : ∃ wo : World, wo = wr := ⟨_, rfl⟩
            have kpos : ((k' : Int) + 1 > 0) := by omega
            go_wp2_with fail
            go_loopw [15] (fun v wr => ∃ (d q2 : Nat), v = .int .i64 ((i : Int) + 1 + d) ∧ d ≤ cd ∧ wr = wo.drewN q2) (fun v _ => i + 1 + cd - (intOf v).toNat)
            case atStart => exact ⟨0, 0, by go_num, by omega, rfl⟩
            case round =>
              obtain ⟨d, q2, rfl, hd, rfl⟩ := hrel
              have ht := (H5.out.1.below H6.out.1.b).below HX.out.2.2.2.1
              have hls := H6.out.1.below HX.out.2.2.2.1
              obtain ⟨g, cap, ecv, hcap, g1, g2⟩ := ht.cost (a := i) (j := i + 1 + d) (by rw [H5.out.2.1, ← HN.out]; omega) (by rw [← HN.out]; omega)
              rw [H5.out.2.1, ← HN.out] at ecv hcap
              rw [← HN.out] at g1 g2
              rw [← HSS.out] at g2
              rw [show (crowF s least p n i).getD (i + 1 + d) 0 = pE (cO s least p i (d + 1)) by
                unfold crowF
                rw [crow_get _ _ _ _ _ _ (by omega), if_pos (by omega), show i + 1 + d - i = d + 1 by omega]] at g2
              have ct := ht.tb.t.at_ (i := 2) rfl
              have hrl := H6.out.2
              have hkl : ls.length + (k' + 1) = k := HX.out.2.2.2.2
              have cr0 := hls.row_at (a := k') (by omega)
              have cr1 := (hls.rr k' (by omega)).at_ (ints_get _ (show i + 1 + d < (lrow (sF fs (ordF fs)) least p fs.length k').length by rw [lrow_length, ← HN.out]; omega))
              rw [lrow_get _ _ _ _ _ (by rw [← HN.out]; omega), show i + 1 + d = i + d + 1 by omega, ← HSS.out, ← HN.out] at cr1
              have cs0 := hls.row_at (a := k' + 1) (by omega)
              have cs1 := (hls.rr (k' + 1) (by omega)).at_ (ints_get _ (show i < (lrow (sF fs (ordF fs)) least p fs.length (k' + 1)).length by rw [lrow_length, ← HN.out]; omega))
              rw [lrow_get _ _ _ _ _ (by rw [← HN.out]; omega), ← HSS.out, ← HN.out] at cs1
              rw [← HN.out] at cr0 cs0
              obtain ⟨ri, hri⟩ : ∃ z, z = r1s.getD i 0 := ⟨_, rfl⟩
              obtain ⟨rk0, hrk0⟩ : ∃ z, z = rs.getD k' 0 := ⟨_, rfl⟩
              obtain ⟨rk1, hrk1⟩ : ∃ z, z = rs.getD (k' + 1) 0 := ⟨_, rfl⟩
              rw [← hri] at g1 g2
              rw [← hrk0] at cr0 cr1
              rw [← hrk1] at cs0 cs1
              clear hri hrk0 hrk1
              have hso : SOK s n := by rw [HSS.out, HN.out]; exact HSO.out
              have bx := fun v (h : cO s least p i (d + 1) = some v) => cO_bd hso (by omega) (by omega) h
              have by_ := fun v (h : restO s least p n k' (i + d + 1) = some v) => restO_bd hso k' (i + d + 1) v (by omega) h
              have hx := pE_lt (b := 1374252095766528) (fun v h => ⟨(bx v h).1, by have := (bx v h).2; omega⟩) (by decide)
              have hy := pE_lt (b := 1374252095766528) (fun v h => ⟨(by_ v h).1, by have := (by_ v h).2; omega⟩) (by decide)
              have hisd : isD s least p n k' i d = true ↔ pE (cO s least p i (d + 1)) < 4611686018427387904 ∧ pE (restO s least p n k' (i + d + 1)) < 4611686018427387904 ∧ pE (cO s least p i (d + 1)) + pE (restO s least p n k' (i + d + 1)) = pE (restO s least p n (k' + 1) i) := by
                rw [hx, hy]
                unfold isD
                rw [decide_eq_true_eq]
                have hz := HX.out.1
                cases e1 : cO s least p i (d + 1) with
                | none => simp [addO]; exact fun h => hz h.symm
                | some x' =>
                  cases e2 : restO s least p n k' (i + d + 1) with
                  | none => simp [addO]; exact fun h => hz h.symm
                  | some y' =>
                    cases e3 : restO s least p n (k' + 1) i with
                    | none => exact absurd e3 hz
                    | some z' => simp [addO, pE]
              have hxb : pE (cO s least p i (d + 1)) < 4611686018427387904 → 0 ≤ pE (cO s least p i (d + 1)) ∧ pE (cO s least p i (d + 1)) ≤ 1374252095766528 := fun h => by
                cases e1 : cO s least p i (d + 1) with
                | none => exact absurd e1 (hx.1 h)
                | some x' => have := bx x' e1; show 0 ≤ x' ∧ x' ≤ _; omega
              have hyb : pE (restO s least p n k' (i + d + 1)) < 4611686018427387904 → 0 ≤ pE (restO s least p n k' (i + d + 1)) ∧ pE (restO s least p n k' (i + d + 1)) ≤ 1374252095766528 := fun h => by
                cases e1 : restO s least p n k' (i + d + 1) with
                | none => exact absurd e1 (hy.1 h)
                | some x' => have := by_ x' e1; show 0 ≤ x' ∧ x' ≤ _; omega
              obtain ⟨x, hxx⟩ : ∃ z, z = pE (cO s least p i (d + 1)) := ⟨_, rfl⟩
              obtain ⟨y, hyy⟩ : ∃ z, z = pE (restO s least p n k' (i + d + 1)) := ⟨_, rfl⟩
              obtain ⟨z, hzz⟩ : ∃ z, z = pE (restO s least p n (k' + 1) i) := ⟨_, rfl⟩
              rw [← hxx] at g2 hisd hxb
              rw [← hyy] at cr1 hisd hyb
              rw [← hzz] at cs1 hisd
              have cr1b := cr1
              rw [show i + d + 1 = i + 1 + d by omega] at cr1b
              have HT := Aside0.mk ht
              subst ecv
              clear bx by_ hx hy hxx hyy hzz ht hls hso hrl
              have q1 : k' < most := by omega
              have q2 : (0 : Int) ≤ (k' : Int) + 1 := by omega
              have q3 : k' < most + 1 := by omega
              have q4 : (0 : Int) ≤ (i : Int) + 1 + d := by omega
              have q5 : (i : Int) + 1 + d < (n : Int) + 1 := by omega
              have q6 : (i : Int) < (n : Int) + 1 := by omega
              have q7 : i + 1 + d < n + 1 := by omega
              have q8 : ((i : Int) + 1 + d).toNat = i + 1 + d := by omega
              have q10 : IntKind.i64.wrap (k' : Int) = k' := IntWalk.i64_in _ (by omega)
              have q11 : (k' : Int) < (most : Int) + 1 := by omega
              have q12 : i < n := by omega
              by_cases hx1 : x < 4611686018427387904
              · have dx : decide (4611686018427387904 ≤ x) = false := decide_eq_false (by omega)
                obtain ⟨hx2, hx3⟩ := hxb hx1
                clear hxb
                by_cases hy1 : y < 4611686018427387904
                · have dy : decide (4611686018427387904 ≤ y) = false := decide_eq_false (by omega)
                  obtain ⟨hy2, hy3⟩ := hyb hy1
                  have q9 : IntKind.i64.wrap (x + y) = x + y := IntWalk.i64_in _ (by omega)
                  clear hyb
                  by_cases hz1 : x + y = z
                  · have dz : (x + y != z) = false := by simpa using hz1
                    have hdc : d = cd := by
                      have h1 : isD s least p n k' i d = true := hisd.2 ⟨hx1, hy1, hz1⟩
                      have h2 := fdF_least (isD s least p n k' i) (n - i) 0 d (by omega) (by omega) h1
                      have h3 : cd ≤ d := by rw [HCD.out]; exact h2
                      omega
                    have HDC := Aside0.mk hdc
                    have HZ1 := Aside0.mk hz1
                    clear hz1 hisd hdc
                    go_upto_region 20 with fail
                    go_quiet (fail)
                    have hline : ∀ W, Below wo.heap.size wo W → Calls Try.prog 63 #[.pointer (some ⟨bt, 0, none⟩), .int .i64 i, .int .i64 ((i : Int) + 1 + d)] W fun e w' => ∃ g9 cap9 : Nat, e = .returned (.agg #[.int .u8 (s i).k0, .int .u8 (s i).k1, .int .u8 (s i).k2, .int .u8 (s i).k3, .slice (some ⟨g9, 0, none⟩) (d + 1) cap9, .int .i64 (massD s i (d + 1)), .int .i64 ((erowF s p n i).getD (i + (d + 1)) 0), .int .i64 ((crowF s least p n i).getD (i + (d + 1)) 0)]) ∧ w'.ownsRow w6.heap.size 3 1 (.slice (some ⟨g9, 0, none⟩) (d + 1) cap9) (d + 1) (ints (((ordF fs).drop i).take (d + 1))) ∧ Below W.heap.size W w' := by
                      intro W hW
                      have hla := line_any W _ bt o A c fs (ordF fs) least p _ ev r1s r2s (HT.out.below hW) H5.out.2.1 (by rw [← HN.out]; exact hn) HSO.out i (d + 1) (by omega) (by rw [← HN.out]; omega) (i + 1 + d) (by omega)
                      rw [show ((i + 1 + d : Nat) : Int) = (i : Int) + 1 + d by omega] at hla
                      refine hla.mono ?_
                      rintro e w' ⟨v', rfl, h1, h2⟩
                      obtain ⟨g9, cap9, rfl, _, _⟩ := h1.form (by omega)
                      refine ⟨g9, cap9, ?_, own_lower h1 (Nat.le_trans HX.out.2.2.2.1.size hW.size), h2⟩
                      rw [← HSS.out, ← HN.out]
                    have HLN := Aside0.mk hline; clear hline
                    have hlsl : ls.length ≤ 1000 := by omega
                    go_upto_region 23 with (first
                      | ((with_reducible refine (HLN.out _ (bdN _ _)).mono ?_); rintro e9 w9 ⟨g9, cap9, rfl, ho9, hb9⟩; have HO9 := Aside0.mk (And.intro ho9 (show Below wo.heap.size wo w9 from below_step (bdN _ _) hb9)); clear ho9 hb9)
                      | ((with_reducible refine gate_builtin (b := .append) (xs := #[.tmp 116, .tmp 121]) rfl ?_); at_builtin; refine wpl_line w6 rfl (.tmp 116) (.tmp 121) rfl u13 s (ordF fs) least p n ls (HX.out.2.1.below (below_alloc HO9.out.2 _)) (g9, cap9, i, d + 1) w9.heap.size rfl rfl (heap_alloc_new _ _) (pw_own_below HO9.out.1 (below_alloc (Below.refl _ _) _)) hlsl (below_step HX.out.2.2.2.1 (below_alloc HO9.out.2 _)) ?_; intro gp capp w10 hp10 hb10; have H10 := Aside0.mk (And.intro hp10 hb10); clear hp10 hb10))
                    go_wp2_with fail
                    go_roundw
                    case rel =>
                      refine ⟨k', i + 1 + d, ls ++ [(g9, cap9, i, d + 1)], by go_num, by go_num, by omega, by omega, ⟨?_, H10.out.1, ?_, H10.out.2, by rw [List.length_append]; simp; omega⟩⟩
                      · have := HCUT.out.2.2
                        rw [← HDC.out] at this
                        rw [show i + 1 + d = i + d + 1 by omega]
                        exact this
                      · rw [← HX.out.2.2.1, List.map_append, List.append_assoc]
                        congr 1
                        rw [planF, ← HCD.out, ← HDC.out, show i + 1 + d = i + d + 1 by omega]
                        rfl
                    case measure => simp [intOf]
                  · have dz : (x + y != z) = true := by simpa using hz1
                    have hdc : d < cd := by
                      rcases Nat.lt_or_ge d cd with h | h
                      · exact h
                      · have h4 : d = cd := by omega
                        have h5 := HCUT.out.1
                        rw [← h4] at h5
                        exact absurd (hisd.1 h5).2.2 hz1
                    have HZ1 := Aside0.mk hz1
                    clear hz1 hisd
                    go_upto_region 20 with fail
                    go_quiet (fail)
                    go_wp2_with fail
                    go_roundw
                    case rel => exact ⟨d + 1, _, by go_num, by omega, rfl⟩
                    case measure => simp [intOf]; omega
                · have dy : decide (4611686018427387904 ≤ y) = true := decide_eq_true (by omega)
                  have hdc : d < cd := by
                    rcases Nat.lt_or_ge d cd with h | h
                    · exact h
                    · have h4 : d = cd := by omega
                      have h5 := HCUT.out.1
                      rw [← h4] at h5
                      exact absurd (hisd.1 h5).2.1 hy1
                  clear hisd hyb
                  go_upto_region 20 with fail
                  go_quiet (fail)
                  go_wp2_with fail
                  go_roundw
                  case rel => exact ⟨d + 1, _, by go_num, by omega, rfl⟩
                  case measure => simp [intOf]; omega
              · have dx : decide (4611686018427387904 ≤ x) = true := decide_eq_true (by omega)
                have hdc : d < cd := by
                  rcases Nat.lt_or_ge d cd with h | h
                  · exact h
                  · have h4 : d = cd := by omega
                    have h5 := HCUT.out.1
                    rw [← h4] at h5
                    exact absurd (hisd.1 h5).1 hx1
                clear hisd hyb hxb
                go_upto_region 20 with fail
                go_quiet (fail)
                go_wp2_with fail
                go_roundw
                case rel => exact ⟨d + 1, _, by go_num, by omega, rfl⟩
                case measure => simp [intOf]; omega
      · have dc : decide (4611686018427387904 ≤ fk) = true := decide_eq_true (by omega)
        go_wp2_with fail
        refine bodyPost_ret (v := .tuple #[.slice none 0 0, .int .i64 0, .int .i64 13]) (by simp [results, Try.results19, go_sem]) rfl ?_
        refine HPOST.out _ _ ⟨below_step (below_step H5.out.2.2.1 H6.out.1.b) (bdN _ _), ?_⟩
        rw [if_neg (by rw [← HKF.out, ← HFK.out]; omega)]
end Go.Proofs.Ythkfahkkcjagdaa
end
