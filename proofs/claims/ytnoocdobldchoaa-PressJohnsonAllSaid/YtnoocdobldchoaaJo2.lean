/- Each number once; Johnson's comparison is consistent; what Sequence answers. -/
import Derived.Test.YtnoocdobldchoaaK8
import Derived.Test.YtnoocdobldchoaaH2
import Derived.Test.YtnoocdobldchoaaE2
namespace Go.Proofs.Ytnoocdobldchoaa
open Go.RowKit Go.Proofs.YtnoocdobldchoaaW.PrintWords Go.Proofs.YtnoocdobldchoaaW.PrintMore Go.Proofs.YtnoocdobldchoaaW.PrintLast

theorem nodup_le : ∀ (n : Nat) (l : List Int), l.Nodup → (∀ x ∈ l, 0 ≤ x ∧ x < n) → l.length ≤ n := by
  intro n
  induction n with
  | zero =>
    intro l _ h
    cases l with
    | nil => simp
    | cons a l => have := h a List.mem_cons_self; omega
  | succ n ih =>
    intro l hn h
    by_cases hm : (n : Int) ∈ l
    · have := ih (l.erase n) (hn.erase _) (fun x hx => by
        have h1 := (hn.mem_erase_iff).1 hx
        have := h x h1.2
        have := h1.1
        omega)
      rw [List.length_erase_of_mem hm] at this
      omega
    · have := ih l hn (fun x hx => by
        have := h x hx
        have : x ≠ n := fun e => hm (e ▸ hx)
        omega)
      omega
theorem perm_upto : ∀ (n : Nat) (l : List Int), l.Nodup → (∀ x ∈ l, 0 ≤ x ∧ x < n) → l.length = n → l.Perm (upto n) := by
  intro n
  induction n with
  | zero =>
    intro l _ _ h
    rw [List.eq_nil_of_length_eq_zero h]
    exact List.Perm.refl _
  | succ n ih =>
    intro l hn h hl
    have hm : (n : Int) ∈ l := by
      by_cases hm : (n : Int) ∈ l
      · exact hm
      · have := nodup_le n l hn (fun x hx => by
          have := h x hx
          have : x ≠ n := fun e => hm (e ▸ hx)
          omega)
        omega
    have h2 := ih (l.erase n) (hn.erase _) (fun x hx => by
      have h1 := (hn.mem_erase_iff).1 hx
      have := h x h1.2
      have := h1.1
      omega) (by rw [List.length_erase_of_mem hm]; omega)
    rw [upto_succ]
    exact (List.perm_cons_erase hm).trans ((h2.cons _).trans (List.perm_append_comm (l₁ := [(n : Int)])))
theorem upto_nodup' (n : Nat) : (upto n).Nodup := by
  unfold upto
  exact List.Pairwise.map _ (fun a b (h : a ≠ b) => by show (a : Int) ≠ (b : Int); omega) List.nodup_range
/-- Which numbers have been seen. -/
def SeenOK (l : List Int) (n i : Nat) (G : List Bool) : Prop := G.length = n ∧ (l.take i).Nodup ∧ (∀ x ∈ l.take i, 0 ≤ x ∧ x < n) ∧ ∀ x : Nat, x < n → (G.getD x false = true ↔ (x : Int) ∈ l.take i)
theorem take_one (l : List Int) (i : Int) (h0 : 0 ≤ i) (h : i < l.length) : l.take (i + 1).toNat = l.take i.toNat ++ [rd l i] := by
  rw [show (i + 1).toNat = i.toNat + 1 by omega, List.take_succ_eq_append_getElem (by omega)]
  simp [rd, List.getD_eq_getElem?_getD, List.getElem?_eq_getElem (show i.toNat < l.length by omega)]
theorem SeenOK.step {l : List Int} {n : Nat} {i : Int} {G : List Bool} (h : SeenOK l n i.toNat G) (h0 : 0 ≤ i) (hi : i < l.length) (hx : 0 ≤ rd l i ∧ rd l i < n) (hg : G.getD (rd l i).toNat false = false) : SeenOK l n (i + 1).toNat (G.set (rd l i).toNat true) := by
  obtain ⟨a, b, c, d⟩ := h
  have hni : rd l i ∉ l.take i.toNat := fun hm => by
    have := (d (rd l i).toNat (by omega)).2 (by rwa [show (((rd l i).toNat : Nat) : Int) = rd l i by omega])
    rw [hg] at this; cases this
  unfold SeenOK
  rw [take_one l i h0 hi]
  refine ⟨by rw [List.length_set]; exact a, ?_, ?_, ?_⟩
  · rw [List.nodup_append]
    refine ⟨b, by simp, fun x hx y hy => ?_⟩
    rw [List.mem_singleton] at hy
    subst hy
    exact fun e => hni (e ▸ hx)
  · intro x hxm
    rcases List.mem_append.1 hxm with h | h
    · exact c x h
    · rw [List.mem_singleton.1 h]; exact hx
  · intro x hxn
    rw [List.mem_append, List.mem_singleton, List.getD_eq_getElem?_getD, List.getElem?_set]
    by_cases e : (rd l i).toNat = x
    · rw [if_pos e, if_pos (by omega)]
      constructor
      · intro _; exact .inr (by omega)
      · intro _; rfl
    · rw [if_neg e, ← List.getD_eq_getElem?_getD, d x hxn]
      constructor
      · exact .inl
      · rintro (h | h)
        · exact h
        · omega
theorem not_perm_of {l : List Int} {n : Nat} {i : Int} {G : List Bool} (h : SeenOK l n i.toNat G) (h0 : 0 ≤ i) (hi : i < l.length) (hx : rd l i < 0 ∨ (n : Int) ≤ rd l i ∨ (0 ≤ rd l i ∧ rd l i < n ∧ G.getD (rd l i).toNat false = true)) : ¬ l.Perm (upto n) := by
  intro hp
  have hmem : rd l i ∈ l := by
    unfold rd
    rw [List.getD_eq_getElem?_getD, List.getElem?_eq_getElem (show i.toNat < l.length by omega)]
    exact List.getElem_mem _
  have hr := (upto_mem n _).1 (hp.mem_iff.1 hmem)
  rcases hx with h1 | h1 | ⟨_, _, h1⟩
  · omega
  · omega
  · have hm := (h.2.2.2 (rd l i).toNat (by omega)).1 h1
    rw [show (((rd l i).toNat : Nat) : Int) = rd l i by omega] at hm
    have hnd : l.Nodup := hp.nodup_iff.2 (upto_nodup' n)
    have hs : l = l.take (i + 1).toNat ++ l.drop (i + 1).toNat := (List.take_append_drop _ _).symm
    rw [hs, take_one l i h0 hi] at hnd
    have := (List.nodup_append.1 (List.nodup_append.1 hnd).1).2.2
    exact this _ hm _ (by simp) rfl

set_option maxRecDepth 100000 in
set_option maxHeartbeats 4000000 in
theorem once_any (w : World) (A : Option Addr) (c : Nat) (l : List Int) (n : Nat) (h : (Kd.int .i64).C w A l.length l) (hn : n ≤ 100000) :
    Calls Try.prog 30 #[.slice A l.length c, .int .i64 n] w fun e w' => e = .returned (.bool (decide (l.Perm (upto n)))) ∧ Below w.heap.size w w' := by
  have hl := Kd.C_max h
  have HR := Aside0.mk h; clear h
  by_cases hlen : l.length = n
  rotate_left
  · have hb : ((l.length : Int) != (n : Int)) = true := by simp; omega
    have HF : Aside0 (decide (l.Perm (upto n)) = false) := ⟨decide_eq_false (fun hp => hlen (by rw [hp.length_eq, upto_length]))⟩
    clear hlen
    go_enter Try.func30, Try.ntmps30
    go_wp2_with fail
    go_ret
    exact ⟨ret_bool HF.out.symm, Below.refl _ _⟩
  have hb : ((l.length : Int) != (n : Int)) = false := by simp; omega
  have hln : l.length ≤ n ∧ n ≤ l.length := by omega
  obtain ⟨hln1, hln2⟩ := hln
  have HLEN := Aside0.mk hlen; clear hlen
  have mk3 := print_make_of (P := Try.prog) 44 4 (.bool false) 1 Try.underlying44 info4 rfl (by decide) n (by omega)
  have b1 : Blk (w.alloc (.cells (madeCells #[.bool false] n) 4)) w.heap.size (bls (List.replicate n false)) 4 := by rw [made_bls]; exact Blk.new _ _ _
  have B1 := Aside0.mk (And.intro b1 (below_alloc (Below.refl w.heap.size w) (.cells (madeCells #[.bool false] n) 4)))
  clear b1
  go_enter Try.func30, Try.ntmps30
  go_upto_region 4 with fail
  obtain ⟨g, hg⟩ : ∃ z, z = w.heap.size := ⟨_, rfl⟩
  obtain ⟨w1, hw1⟩ : ∃ z, z = w.alloc (.cells (madeCells #[.bool false] n) 4) := ⟨_, rfl⟩
  have B2 := B1.out
  rw [← hw1] at B2
  rw [← hw1, ← hg]
  have HB : Aside0 (Blk w1 g (bls (List.replicate n false)) 4 ∧ Below w.heap.size w w1) := ⟨⟨by rw [hg]; exact B2.1, B2.2⟩⟩
  have HG : Aside0 (w.heap.size ≤ g) := ⟨by omega⟩
  clear mk3 hw1 B1 B2 hb hg
  go_wp2_with fail
  go_loopw [6] (fun v wr => ∃ (i : Int) (G : List Bool), v = .int .i64 i ∧ 0 ≤ i ∧ i ≤ n ∧ Aside0 (SeenOK l n i.toNat G ∧ Blk wr g (bls G) 4 ∧ Below w.heap.size w wr)) (fun v _ => n - (intOf v).toNat)
  case atStart =>
    refine ⟨0, List.replicate n false, rfl, by omega, by omega, ⟨⟨by simp, by simp, by simp, fun x hx => ?_⟩, HB.out.1, HB.out.2⟩⟩
    rw [List.getD_eq_getElem?_getD, List.getElem?_replicate, if_pos hx]
    simp
  case round =>
    obtain ⟨i, G, rfl, h0, h1, HS⟩ := hrel
    by_cases hlt : i < n
    · have hltl : i < l.length := by omega
      obtain ⟨hS, hB, hW⟩ := HS.out
      obtain ⟨ad, e1, g1⟩ := Kd.at_int (Kd.C_below HR.out hW) i h0 hltl
      subst e1
      have hnp := fun hx => not_perm_of hS h0 hltl hx
      have hst := hS.step h0 hltl
      obtain ⟨x, hx⟩ : ∃ z, z = rd l i := ⟨_, rfl⟩
      rw [← hx] at g1 hnp hst
      have HNP := Aside0.mk hnp
      have HST := Aside0.mk hst
      clear hnp hst hx
      by_cases hneg : x < 0
      · have HF : Aside0 (decide (l.Perm (upto n)) = false) := ⟨decide_eq_false (HNP.out (.inl hneg))⟩
        have d1 : decide (x < 0) = true := decide_eq_true hneg
        clear hS hB
        have HW := Aside0.mk hW; clear hW
        go_wp2_with fail
        go_ret
        exact ⟨ret_bool HF.out.symm, HW.out⟩
      have d1 : decide (x < 0) = false := decide_eq_false hneg
      by_cases hbig : (n : Int) ≤ x
      · have HF : Aside0 (decide (l.Perm (upto n)) = false) := ⟨decide_eq_false (HNP.out (.inr (.inl hbig)))⟩
        have d2 : decide ((n : Int) ≤ x) = true := decide_eq_true hbig
        clear hS hB
        have HW := Aside0.mk hW; clear hW
        go_wp2_with fail
        go_ret
        exact ⟨ret_bool HF.out.symm, HW.out⟩
      have d2 : decide ((n : Int) ≤ x) = false := decide_eq_false hbig
      have hx0 : 0 ≤ x := by omega
      have hx1 : x < n := by omega
      have hgl : x.toNat < G.length := by rw [hS.1]; omega
      have c1 := hB.at_ (bls_get G hgl)
      have fr := hB.free x.toNat
      obtain ⟨bb, hbb⟩ : ∃ z, z = G.getD x.toNat false := ⟨_, rfl⟩
      rw [← hbb] at c1
      have HBB := Aside0.mk hbb
      clear hbb hgl hS
      cases bb with
      | true =>
        have HF : Aside0 (decide (l.Perm (upto n)) = false) := ⟨decide_eq_false (HNP.out (.inr (.inr ⟨hx0, hx1, HBB.out.symm⟩)))⟩
        have HW := Aside0.mk hW; clear hW hB
        go_wp2_with fail
        go_ret
        exact ⟨ret_bool HF.out.symm, HW.out⟩
      | false =>
        have hB2 := hB.set x.toNat (.bool true)
        rw [bls_set] at hB2
        have HN : Aside0 (SeenOK l n (i + 1).toNat (G.set x.toNat true) ∧ Blk (wr.setCell ⟨g, x.toNat, none⟩ (.bool true)) g (bls (G.set x.toNat true)) 4 ∧ Below w.heap.size w (wr.setCell ⟨g, x.toNat, none⟩ (.bool true))) := ⟨⟨HST.out ⟨hx0, hx1⟩ HBB.out.symm, hB2, hW.setCell (by first | exact HG.out | omega) _⟩⟩
        clear hB hW hB2
        go_wp2_with fail
        go_roundw
        case rel => exact ⟨i + 1, _, by go_num, by omega, by omega, HN⟩
        case measure => show n - (i + 1).toNat < n - i.toNat; omega
    · have HF : Aside0 (decide (l.Perm (upto n)) = true) := ⟨decide_eq_true (by
        obtain ⟨⟨_, q1, q2, _⟩, _, _⟩ := HS.out
        rw [show i.toNat = l.length by omega, List.take_length] at q1 q2
        exact perm_upto n l q1 q2 HLEN.out)⟩
      go_wp2_with fail
      go_ret
      exact ⟨ret_bool HF.out.symm, HS.out.2.2⟩
/-- Johnson's comparison is consistent. -/
theorem jcmp_law (ds : List (Int × Int)) : CmpLaw (jcf ds) := by
  refine ⟨fun x y => ?_, fun x y z => ?_⟩
  · unfold jcf jcmp cmpI
    generalize rdP ds x = p
    generalize rdP ds y = q
    by_cases h1 : p.1 ≤ p.2 <;> by_cases h2 : q.1 ≤ q.2 <;> simp only [h1, h2, if_true, if_false]
    · by_cases h3 : q.1 < p.1
      · rw [if_pos h3, if_neg (by omega), if_pos h3]; omega
      · by_cases h4 : p.1 < q.1
        · rw [if_neg h3, if_pos h4, if_pos h4]; omega
        · rw [if_neg h3, if_neg h4, if_neg h4, if_neg h3]
    · omega
    · omega
    · by_cases h3 : q.2 < p.2
      · rw [if_neg (by omega), if_pos h3, if_pos h3]; omega
      · by_cases h4 : p.2 < q.2
        · rw [if_pos h4, if_neg h3, if_pos h4]; omega
        · rw [if_neg h4, if_neg h3, if_neg h3, if_neg h4]
  · unfold jcf jcmp cmpI
    generalize rdP ds x = p
    generalize rdP ds y = q
    generalize rdP ds z = r
    by_cases h1 : p.1 ≤ p.2 <;> by_cases h2 : q.1 ≤ q.2 <;> by_cases h3 : r.1 ≤ r.2 <;> simp only [h1, h2, h3, if_true, if_false] <;> intro a b
    · split at a <;> split at b <;> split <;> (try split) <;> (try split at a) <;> (try split at b) <;> omega
    all_goals omega
theorem seq64 (w : World) (A : Option Addr) (c : Nat) (ds : List (Int × Int)) (h : kP.C w A ds.length ds) : Calls Try.prog 33 #[.slice A ds.length c] w (SeqPost ds w) :=
  seq_any w A c ds h (fun _ _ _ hd => sorts64 (jcmp_law ds) (DOK.of_E hd).1)
/-- Johnson's order of some dumps. -/
def jord (ds : List (Int × Int)) : List Int := srt (jcf ds) (upto ds.length)
theorem jord_perm (ds : List (Int × Int)) : (jord ds).Perm (upto ds.length) := srt_perm' _ _
theorem jord_best {ds : List (Int × Int)} {o : List Int} (h0 : dumpsE ds = 0) (hp : o.Perm (upto ds.length)) : spanF ds (jord ds) ≤ spanF ds o := by
  rw [spanF_L, spanF_L]
  refine johnson ?_ ((hp.trans (jord_perm ds).symm).map _) (fun d hd => ?_)
  · refine List.Pairwise.map _ (fun x y (hxy : ahd (jcf ds) x y) => ?_) (srt_ahd (jcmp_law ds) (upto ds.length) (upto_pw _))
    have a := (jcmp_law ds).anti x y
    show ¬ jcf ds y x < 0
    unfold ahd at hxy
    omega
  · obtain ⟨x, hx, rfl⟩ := List.mem_map.1 hd
    have hr := (upto_mem _ x).1 ((jord_perm ds).mem_iff.1 hx)
    have := (DOK.of_E h0).at_ x hr.1 hr.2
    omega
end Go.Proofs.Ytnoocdobldchoaa
