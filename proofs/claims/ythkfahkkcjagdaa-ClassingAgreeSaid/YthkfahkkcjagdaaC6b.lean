/- Rows of slices of the call's own: one slice more at a step that draws its order. -/
import Derived.Test.YthkfahkkcjagdaaC6
import Derived.Deep.AppendLies
namespace Go.Proofs.Ythkfahkkcjagdaa
open Go.RowKit Go.Proofs.YthkfahkkcjagdaaW.PrintWords Go.Proofs.YthkfahkkcjagdaaW.PrintMore Go.Proofs.YthkfahkkcjagdaaW.PrintLast

theorem info35 : (Try.prog.info? 35).map (fun i => (i.zero, i.size, i.bytes)) = some (some (.slice none 0 0), 1, 24) := by kernel_rfl
/-- A slice of the call's own whose elements are slices. -/
abbrev OwnS (w : World) (N : Nat) (v : Value) (xs : List Value) : Prop := w.ownsRow N 35 1 v xs.length xs
theorem OwnS.below {w w1 : World} {N : Nat} {v : Value} {xs : List Value} (h : OwnS w N v xs) (hb : Below w.heap.size w w1) : OwnS w1 N v xs := pw_own_below h hb
theorem OwnS.lt {w : World} {N : Nat} {v : Value} {xs : List Value} (h : OwnS w N v xs) {k : Nat} (hk : v.ownBlock = some k) : N ≤ k ∧ k < w.heap.size ∧ ∃ cells, w.heap[k]? = some (.cells cells 35 (0, 0)) := by
  obtain ⟨c, hc⟩ := own_typed h k hk
  rcases h.2 with ⟨rfl, _⟩ | ⟨g, cap, cur, rfl, hg, hh, r⟩
  · simp [Value.ownBlock] at hk
  · simp only [Value.ownBlock, Option.some.injEq] at hk
    subst hk
    exact ⟨hg, lt_of_block hh, c, hc⟩
theorem OwnS.kp {w w1 : World} {N : Nat} {v : Value} {xs : List Value} {S : Nat → Prop} (h : OwnS w N v xs) (k : Kp S w w1) (hn : ∀ j, v.ownBlock = some j → ¬ S j) : OwnS w1 N v xs :=
  own_move h fun j hj => k.block j (h.lt hj).2.1 (hn j hj)
theorem Kp.grown {S T : Nat → Prop} {w w1 w2 : World} {row : Option Nat} (h : Kp S w w1) (g : w1.grownBy w2 row) (hs : ∀ j, row = some j → T j) (hst : ∀ j, S j → T j) : Kp T w w2 :=
  ⟨g.os.trans h.os, g.tape.trans h.tape, g.output.trans h.output, Nat.le_trans h.size g.size, fun j hj hn =>
    (g.block j (Nat.lt_of_lt_of_le hj h.size) (fun e => hn (hs j e.symm))).trans (h.block j hj (fun hk => hn (hst j hk)))⟩
/-- What a cell holds. -/
def pk (W : World) (b j : Nat) (v : Value) : Value := (W.cell? ⟨b, j, none⟩).getD v
theorem pk_of {W : World} {b : Nat} {v0 v1 v2 v3 c e : Value} {t : TypeId} (h : Blk W b [v0, v1, v2, v3] t) : W.cell? ⟨b, 2, none⟩ = some (pk W b 2 c) ∧ W.cell? ⟨b, 3, none⟩ = some (pk W b 3 e) := by
  unfold pk
  rw [h.at_ (i := 2) rfl, h.at_ (i := 3) rfl]
  exact ⟨rfl, rfl⟩
theorem pk_eq {W : World} {b j : Nat} {v c : Value} (h : W.cell? ⟨b, j, none⟩ = some v) : pk W b j c = v := by unfold pk; rw [h]; rfl
theorem step_own {ops : Array Oper} {o : Oper} {a : Act} {K : Act → World → Prop} {Q : Exit → Act → World → Prop} {E : Prop} {W : World} (wc : World) (S : Nat → Prop) (hgd : o.guard = none) (s x : Operand)
    (ho : o.op = .call { callee := .builtin .append, args := #[s, x], argTypes := #[101, 101] })
    (N : Nat) (v : Value) (xs : List Value) (y : Value) (b : Nat) (hs : a.eval s = v) (hx : a.eval x = .slice (some ⟨b, 0, none⟩) 1 1) (hown : OwnS W N v xs) (hb : W.heap[b]? = some (.cells #[y] 35 (0, 0))) (hy : y.oneCell' = true)
    (hl : xs.length ≤ 1000) (hN : N ≤ W.heap.size) (hk : Kp S wc W)
    (h : ∀ g cap w', OwnS w' N (.slice (some ⟨g, 0, none⟩) (xs.length + 1) cap) (xs ++ [y]) → Kp (fun j => S j ∨ v.ownBlock = some j) wc w' → (v.ownBlock = some g ∨ (wc.heap.size ≤ g ∧ W.heap.size ≤ g)) → g < w'.heap.size → (∀ j, j < W.heap.size → v.ownBlock ≠ some j → w'.heap[j]? = W.heap[j]?) → K (a.put o.dst (.slice (some ⟨g, 0, none⟩) (xs.length + 1) cap)) w') :
    if Region.wanted o (yielded ops a.tmps) = true then Oper.wp Try.prog o a W K Q else E := by
  obtain ⟨i, hi, he⟩ := Option.map_eq_some_iff.1 info35
  simp only [Prod.mk.injEq] at he
  refine step_append_lies W hgd s x 101 ho N 35 i (.slice none 0 0) 1 24 Try.underlying101 hi he.1 he.2.1 he.2.2 rfl (by decide) v xs.length xs hs hown ⟨b, 0, none⟩ 1 1 [y] hx rfl (World.news_of_block hb) (by simpa using hy) (by decide) (by unfold maxLen; omega) (by omega) hN W.heap.size rfl ?_
  intro g cap w' h1 h2 h3 h4
  refine h g cap w' ?_ (hk.grown h2 (fun j e => .inr e) (fun j e => .inl e)) ?_ h4 (fun j hj hne => h2.block j hj (fun e => hne e.symm))
  · have e : (xs ++ [y]).length = xs.length + 1 := by simp
    show w'.ownsRow N 35 1 _ (xs ++ [y]).length _
    rw [e]; exact h1
  · rcases h3 with h3 | h3
    · exact .inl h3
    · have := hk.size; exact .inr (by omega)
theorem row_ne {wc W : World} {N g : Nat} {v : Option Nat} {ev : Value} {es : List Value} (h : v = some g ∨ (wc.heap.size ≤ g ∧ W.heap.size ≤ g)) (hd : ∀ k, v = some k → ev.ownBlock ≠ some k) (he : OwnS wc N ev es) : ev.ownBlock ≠ some g := by
  intro e
  rcases h with h | h
  · exact hd g h e
  · have := (he.lt e).2.1; omega
theorem own_after {w1 W2 w2 : World} {N g n c : Nat} {xs : List Value} {u : Option Nat} (h : OwnS w1 N (.slice (some ⟨g, 0, none⟩) n c) xs) (hb : Below w1.heap.size w1 W2) (hfar : ∀ j, j < W2.heap.size → u ≠ some j → w2.heap[j]? = W2.heap[j]?) (hne : u ≠ some g) : OwnS w2 N (.slice (some ⟨g, 0, none⟩) n c) xs := by
  refine own_move h fun j hj => ?_
  have hlt := (h.lt hj).2.1
  have hj' : j = g := by simpa [Value.ownBlock] using hj.symm
  subst hj'
  exact (hfar j (Nat.lt_of_lt_of_le hlt hb.size) hne).trans (hb.block j hlt)
theorem own_apart {wc w1 W2 : World} {g1 g2 : Nat} {u : Option Nat} (h : u = some g2 ∨ (wc.heap.size ≤ g2 ∧ W2.heap.size ≤ g2)) (hb : Below w1.heap.size w1 W2) (hlt : g1 < w1.heap.size) (hne : u ≠ some g1) : g1 ≠ g2 := by
  rintro rfl
  rcases h with h | h
  · exact hne h
  · have := hb.size; omega
/-- What a row leaves. -/
def RowPost (w : World) (bt o : Nat) (A : Option Addr) (cf : Nat) (fs : List Fl) (ord : List Int) (cv ev : Value) (N : Nat) (cs es : List Value) (i : Nat) (least p : Int) (e : Ending) (w' : World) : Prop :=
  e = .returned (.tuple #[]) ∧ ∃ (r1 r2 : Nat) (cv' ev' : Value), TB w' bt o A cf fs ord cv' ev' ∧ Kp (fun k => k = bt ∨ cv.ownBlock = some k ∨ ev.ownBlock = some k) w w' ∧
    OwnS w' N cv' (cs ++ [.slice (some ⟨r1, 0, none⟩) (fs.length + 1) (fs.length + 1)]) ∧ OwnS w' N ev' (es ++ [.slice (some ⟨r2, 0, none⟩) (fs.length + 1) (fs.length + 1)]) ∧ (∀ k, cv'.ownBlock = some k → ev'.ownBlock ≠ some k) ∧
    Blk w' r1 (ints (crowF (sF fs ord) least p fs.length i)) 3 ∧ Blk w' r2 (ints (erowF (sF fs ord) p fs.length i)) 3 ∧ w.heap.size ≤ r1 ∧ w.heap.size ≤ r2
theorem own_type_ne {w : World} {N : Nat} {v : Value} {xs : List Value} (h : OwnS w N v xs) {b : Nat} {cs : List Value} {t : TypeId} (hb : Blk w b cs t) (ht : t ≠ 35) : v.ownBlock ≠ some b := by
  intro e
  obtain ⟨_, _, cl, hcl⟩ := h.lt e
  unfold Blk at hb
  rw [hcl] at hb
  injection hb with hb
  injection hb with _ h2
  exact ht h2.symm
theorem row_end {w wc w2 : World} {bt o : Nat} {A : Option Addr} {cf : Nat} {fs : List Fl} {ord : List Int} {cv ev : Value} {N bs b1 r1 r2 g1 g2 cap1 cap2 i n : Nat} {sp : List Value} {f1 : Fl} {least p : Int} {cs es : List Value}
    (h9 : RM wc w bt o A cf fs ord cv ev bs b1 r1 r2 sp f1 (crowF (sF fs ord) least p n i) (erowF (sF fs ord) p n i)) (hn : n = fs.length) (hcv : OwnS wc N cv cs) (hev : OwnS wc N ev es)
    (ho1 : OwnS w2 N (.slice (some ⟨g1, 0, none⟩) (cs.length + 1) cap1) (cs ++ [.slice (some ⟨r1, 0, none⟩) (n + 1) (n + 1)])) (ho2 : OwnS w2 N (.slice (some ⟨g2, 0, none⟩) (es.length + 1) cap2) (es ++ [.slice (some ⟨r2, 0, none⟩) (n + 1) (n + 1)]))
    (hk2 : Kp (fun j => (False ∨ cv.ownBlock = some j) ∨ ev.ownBlock = some j) wc w2) (hap : g1 ≠ g2) (hA : 0 < fs.length → ∀ ad, A = some ad → ad.block < N) (hNb : N ≤ bt) :
    RowPost w bt o A cf fs ord cv ev N cs es i least p (.returned (.tuple #[])) ((w2.setCell ⟨bt, 2, none⟩ (.slice (some ⟨g1, 0, none⟩) (cs.length + 1) cap1)).setCell ⟨bt, 3, none⟩ (.slice (some ⟨g2, 0, none⟩) (es.length + 1) cap2)) := by
  subst hn
  have nS : ∀ b cs t, Blk wc b cs t → t ≠ 35 → ¬ ((False ∨ cv.ownBlock = some b) ∨ ev.ownBlock = some b) := by
    rintro b cs t hb ht ((h | h) | h)
    · exact h
    · exact own_type_ne hcv hb ht h
    · exact own_type_ne hev hb ht h
  have hbt := h9.tb.t.kp hk2 (nS _ _ _ h9.tb.t (by decide))
  have ho := h9.tb.o.kp hk2 (nS _ _ _ h9.tb.o (by decide))
  have hr1 := h9.c.kp hk2 (nS _ _ _ h9.c (by decide))
  have hr2 := h9.e.kp hk2 (nS _ _ _ h9.e (by decide))
  have k3 : Kp (fun k => k = bt) w2 ((w2.setCell ⟨bt, 2, none⟩ (.slice (some ⟨g1, 0, none⟩) (cs.length + 1) cap1)).setCell ⟨bt, 3, none⟩ (.slice (some ⟨g2, 0, none⟩) (es.length + 1) cap2)) :=
    ((Kp.refl (fun k => k = bt) w2).setCell (p := ⟨bt, 2, none⟩) (fun _ => rfl) _).setCell (p := ⟨bt, 3, none⟩) (fun _ => rfl) _
  refine ⟨rfl, r1, r2, _, _, ?_, ?_, ho1.kp k3 ?_, ho2.kp k3 ?_, ?_, hr1.kp k3 (hr1.ne_of_type hbt (by decide)), hr2.kp k3 (hr2.ne_of_type hbt (by decide)), h9.l1, h9.l2⟩
  · refine ⟨(hbt.set 2 _).set 3 _, ho.kp k3 (ho.ne_of_type hbt (by decide)), ?_, h9.tb.ol, h9.tb.om⟩
    have f1 : kF.C w2 A fs.length fs := CF_kp h9.tb.f hk2 fun hp ad e => ⟨CF_lt h9.tb.f hp ad e, by
      have hlt := hA hp ad e
      rintro ((h | h) | h)
      · exact h
      · have := (hcv.lt h).1; omega
      · have := (hev.lt h).1; omega⟩
    refine CF_kp f1 k3 fun hp ad e => ⟨CF_lt f1 hp ad e, ?_⟩
    intro hb
    have hlt := hA hp ad e
    omega
  · have k1 : Kp (fun k => k = bt ∨ cv.ownBlock = some k ∨ ev.ownBlock = some k) w wc := Kp.of_below h9.b
    have k2 : Kp (fun k => k = bt ∨ cv.ownBlock = some k ∨ ev.ownBlock = some k) wc w2 := hk2.mono fun j hj => by
      rcases hj with (h | h) | h
      · exact h.elim
      · exact .inr (.inl h)
      · exact .inr (.inr h)
    exact (k1.step k2).step (k3.mono fun j hj => .inl hj)
  · intro j hj hb
    rw [show j = bt from hb] at hj
    exact own_type_ne ho1 hbt (by decide) hj
  · intro j hj hb
    rw [show j = bt from hb] at hj
    exact own_type_ne ho2 hbt (by decide) hj
  · intro k h1 h2
    simp only [Value.ownBlock, Option.some.injEq] at h1 h2
    omega
end Go.Proofs.Ythkfahkkcjagdaa
