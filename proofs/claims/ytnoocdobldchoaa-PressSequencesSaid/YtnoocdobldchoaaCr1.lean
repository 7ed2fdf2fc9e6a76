/- What Critical answers: the first position whose sums are the makespan. -/
import Derived.Test.YtnoocdobldchoaaJo3
namespace Go.Proofs.Ytnoocdobldchoaa
open Go.RowKit Go.Proofs.YtnoocdobldchoaaW.PrintWords Go.Proofs.YtnoocdobldchoaaW.PrintMore Go.Proofs.YtnoocdobldchoaaW.PrintLast

/-- The dumps in an order; the pressing times up to a position and the strapping times from it on. -/
def inO (ds : List (Int × Int)) (o : List Int) : List (Int × Int) := o.map (rdP ds)
def critV (ds : List (Int × Int)) (o : List Int) (k : Nat) : Int := sumP ((inO ds o).take (k + 1)) + sumS ((inO ds o).drop k)
theorem inO_length (ds : List (Int × Int)) (o : List Int) : (inO ds o).length = o.length := by simp [inO]
theorem inO_get (ds : List (Int × Int)) (o : List Int) (i : Nat) (h : i < o.length) : (inO ds o)[i]'(by rw [inO_length]; exact h) = rdP ds (rd o i) := by
  simp [inO, rd, List.getD_eq_getElem?_getD, List.getElem?_eq_getElem h]
theorem takeP_succ (ds : List (Int × Int)) (o : List Int) (i : Nat) (h : i < o.length) : sumP ((inO ds o).take (i + 1)) = sumP ((inO ds o).take i) + (rdP ds (rd o i)).1 := by
  rw [List.take_succ_eq_append_getElem (by rw [inO_length]; exact h), sumP_append, inO_get ds o i h]
  simp [sumP]
theorem dropS_succ (ds : List (Int × Int)) (o : List Int) (i : Nat) (h : i < o.length) : sumS ((inO ds o).drop i) = (rdP ds (rd o i)).2 + sumS ((inO ds o).drop (i + 1)) := by
  rw [List.drop_eq_getElem_cons (by rw [inO_length]; exact h), sumS_cons, inO_get ds o i h]
theorem critV_split (ds : List (Int × Int)) (o : List Int) (A B : List (Int × Int)) (x : Int × Int) (h : inO ds o = A ++ x :: B) : critV ds o A.length = sumP A + x.1 + x.2 + sumS B := by
  unfold critV
  rw [h]
  have e1 : (A ++ x :: B).take (A.length + 1) = A ++ [x] := by rw [List.take_append, List.take_of_length_le (by omega), Nat.add_sub_cancel_left]; rfl
  have e2 : (A ++ x :: B).drop A.length = x :: B := by simp
  rw [e1, e2, sumP_append, sumS_cons]
  have : sumP [x] = x.1 := by simp [sumP]
  omega
theorem critV_le (ds : List (Int × Int)) (o : List Int) (k : Nat) (h : k < o.length) : critV ds o k ≤ spanF ds o := by
  have hl : k < (inO ds o).length := by rw [inO_length]; exact h
  have e : inO ds o = (inO ds o).take k ++ (inO ds o)[k] :: (inO ds o).drop (k + 1) := by rw [← List.drop_eq_getElem_cons hl, List.take_append_drop]
  have v := critV_split ds o _ _ _ e
  rw [List.length_take, show min k (inO ds o).length = k by omega] at v
  have g := spanL_ge ((inO ds o).take k) (inO ds o)[k] ((inO ds o).drop (k + 1)) (0, 0)
  rw [← e] at g
  rw [v, spanF_L]
  show _ ≤ spanL (inO ds o) (0, 0)
  dsimp only at g
  omega
theorem critV_at {ds : List (Int × Int)} {o : List Int} (h0 : dumpsE ds = 0) (hr : ∀ x ∈ o, 0 ≤ x ∧ x < ds.length) (hne : o ≠ []) : ∃ k, k < o.length ∧ critV ds o k = spanF ds o := by
  obtain ⟨A, x, B, e, hs⟩ := spanL_split (l := inO ds o) (fun h => hne (by
    have := congrArg List.length h
    rw [inO_length] at this
    exact List.eq_nil_of_length_eq_zero this)) (fun d hd => by
    obtain ⟨i, hi, rfl⟩ := List.mem_map.1 hd
    have := (DOK.of_E h0).at_ i (hr i hi).1 (hr i hi).2
    omega)
  have hl := congrArg List.length e
  rw [inO_length] at hl
  refine ⟨A.length, by rw [hl]; simp, ?_⟩
  rw [critV_split ds o A B x e, spanF_L]
  exact hs.symm
/-- The first position whose sums are the makespan; -1: there is none. -/
def IsCrit (ds : List (Int × Int)) (o : List Int) (r : Int) : Prop :=
  (∃ k : Nat, r = k ∧ k < o.length ∧ critV ds o k = spanF ds o ∧ ∀ j, j < k → critV ds o j ≠ spanF ds o) ∨ (r = -1 ∧ ∀ j, j < o.length → critV ds o j ≠ spanF ds o)
theorem IsCrit.one {ds : List (Int × Int)} {o : List Int} {r s : Int} (h : IsCrit ds o r) (k : IsCrit ds o s) : r = s := by
  rcases h with ⟨a, rfl, h1, h2, h3⟩ | ⟨rfl, h1⟩
  · rcases k with ⟨b, rfl, k1, k2, k3⟩ | ⟨rfl, k1⟩
    · rcases Nat.lt_trichotomy a b with h | h | h
      · exact absurd h2 (k3 a h)
      · rw [h]
      · exact absurd k2 (h3 b h)
    · exact absurd h2 (k1 a h1)
  · rcases k with ⟨b, rfl, k1, k2, k3⟩ | ⟨rfl, k1⟩
    · exact absurd k2 (h1 b k1)
    · rfl
theorem perm_sumS {l l' : List (Int × Int)} (h : l.Perm l') : sumS l = sumS l' := perm_sum' (h.map _)
theorem upto_map (ds : List (Int × Int)) : (upto ds.length).map (rdP ds) = ds := by
  apply List.ext_getElem (by simp [upto])
  intro i h1 h2
  simp [upto, rdP, List.getD_eq_getElem?_getD, List.getElem?_eq_getElem h2]
theorem sumS_all {ds : List (Int × Int)} {o : List Int} (h : o.Perm (upto ds.length)) : sumS (inO ds o) = sumS ds := by
  have := perm_sumS (h.map (rdP ds))
  rw [upto_map] at this
  exact this
theorem sumS_bd : ∀ l : List (Int × Int), (∀ d ∈ l, 0 ≤ d.2 ∧ d.2 ≤ 1073741824) → 0 ≤ sumS l ∧ sumS l ≤ l.length * 1073741824 := by
  intro l
  induction l with
  | nil => intro _; simp [sumS]
  | cons a l ih =>
    intro h
    have h1 := ih (fun z hz => h z (List.mem_cons_of_mem _ hz))
    have h2 := h a List.mem_cons_self
    rw [sumS_cons, List.length_cons]
    omega
theorem inO_bd {ds : List (Int × Int)} {o : List Int} (hd : DOK ds) (hr : ∀ x ∈ o, 0 ≤ x ∧ x < ds.length) : ∀ d ∈ inO ds o, (0 ≤ d.1 ∧ d.1 ≤ 1073741824) ∧ 0 ≤ d.2 ∧ d.2 ≤ 1073741824 := fun d h => by
  obtain ⟨i, hi, rfl⟩ := List.mem_map.1 h
  exact hd.at_ i (hr i hi).1 (hr i hi).2
theorem takeS_succ (ds : List (Int × Int)) (i : Int) (h0 : 0 ≤ i) (h : i < ds.length) : sumS (ds.take (i + 1).toNat) = sumS (ds.take i.toNat) + (rdP ds i).2 := by
  rw [show (i + 1).toNat = i.toNat + 1 by omega, List.take_succ_eq_append_getElem (by omega), sumS_append]
  simp [sumS, rdP, List.getD_eq_getElem?_getD, List.getElem?_eq_getElem (show i.toNat < ds.length by omega)]
def CritPost (ds : List (Int × Int)) (o : List Int) (w : World) (e : Ending) (w' : World) : Prop :=
  Below w.heap.size w w' ∧ ∃ r : Int, e = .returned (.tuple #[.int .i64 r, .int .i64 (orderedE ds o)]) ∧ (orderedE ds o = 0 → IsCrit ds o r) ∧ (orderedE ds o ≠ 0 → r = 0)

set_option maxRecDepth 100000 in
set_option maxHeartbeats 8000000 in
theorem critical_any (w : World) (A B : Option Addr) (c d : Nat) (ds : List (Int × Int)) (o : List Int) (h : kP.C w A ds.length ds) (k : (Kd.int .i64).C w B o.length o) :
    Calls Try.prog 38 #[.slice A ds.length c, .slice B o.length d] w (CritPost ds o w) := by
  have hl1 := Kd.C_max h
  have hl2 := Kd.C_max k
  have ho := ordered_any w A B c d ds o h k
  obtain ⟨e0, he0⟩ : ∃ z, z = orderedE ds o := ⟨_, rfl⟩
  rw [← he0] at ho
  have HO := Aside0.mk ho
  have HK := Aside0.mk (And.intro h k)
  have HE := Aside0.mk he0
  clear ho h k he0
  by_cases hz : e0 = 0
  rotate_left
  · have hzb : (e0 != 0) = true := by simp [hz]
    go_enter Try.func38, Try.ntmps38
    go_wp2_with ((with_reducible refine HO.out.mono ?_); rintro e5 w5 ⟨rfl, hb5⟩; have H5 := Aside0.mk hb5; clear hb5)
    refine bodyPost_ret (v := .tuple #[.int .i64 0, .int .i64 e0]) (by simp [results, Try.results38, go_sem]) rfl ?_
    exact ⟨H5.out, 0, by rw [HE.out], fun h => absurd (HE.out.trans h) hz, fun _ => rfl⟩
  subst hz
  obtain ⟨hd, hp⟩ := ordered_ok HE.out.symm
  obtain ⟨hr, hln⟩ := perm_rng hp
  have hdk := DOK.of_E hd
  have hdl := hdk.1
  have hol : o.length ≤ 64 := by omega
  have hsp := fun W (hW : Below w.heap.size w W) => span_any W A B c d ds o (Kd.C_below HK.out.1 hW) (Kd.C_below HK.out.2 hW) hdk hr hol
  obtain ⟨m, hm⟩ : ∃ z, z = spanF ds o := ⟨_, rfl⟩
  rw [← hm] at hsp
  have HSP := Aside0.mk hsp
  have HM := Aside0.mk hm
  have HR := Aside0.mk hr
  have HDK := Aside0.mk hdk
  have HP := Aside0.mk (And.intro hp hln)
  clear hsp hm hdk hr hp hd hln
  go_enter Try.func38, Try.ntmps38
  go_upto_region 5 with (first | ((with_reducible refine HO.out.mono ?_); rintro e5 w5 ⟨rfl, hb5⟩; have H5 := Aside0.mk hb5; clear hb5) | ((with_reducible refine (HSP.out _ H5.out).mono ?_); rintro e6 w6 ⟨rfl, rfl⟩))
  clear HO HSP
  go_wp2_with fail
  go_loopw [9, 25] (fun v9 v25 wr => ∃ s i : Int, v9 = .int .i64 s ∧ v25 = .int .i64 i ∧ 0 ≤ i ∧ i ≤ ds.length ∧ 0 ≤ s ∧ s ≤ i * 1073741824 ∧ Aside0 (s = sumS (ds.take i.toNat)) ∧ Aside0 (Below w.heap.size w wr)) (fun _ v _ => ds.length - (intOf v).toNat)
  case atStart => exact ⟨0, 0, rfl, rfl, by omega, by omega, by omega, by omega, ⟨rfl⟩, H5⟩
  case round =>
    obtain ⟨s, i, rfl, rfl, h0, h1, hs0, hs1, HS, HB⟩ := hrel
    by_cases hlt : i < ds.length
    · obtain ⟨ad, e1, g1, g2⟩ := at_P (Kd.C_below HK.out.1 HB.out) i h0 hlt
      subst e1
      have hb := HDK.out.at_ i h0 hlt
      have hts := takeS_succ ds i h0 hlt
      obtain ⟨x, hx⟩ : ∃ z, z = (rdP ds i).1 := ⟨_, rfl⟩
      obtain ⟨y, hy⟩ : ∃ z, z = (rdP ds i).2 := ⟨_, rfl⟩
      rw [← hx] at g1 hb
      rw [← hy] at g2 hb hts
      obtain ⟨_, hy0, hy1⟩ := hb
      have HTS := Aside0.mk hts
      clear hx hy hts
      go_wp2_with fail
      go_roundw
      case rel => exact ⟨s + y, i + 1, by go_num, by go_num, by omega, by omega, by omega, by omega, ⟨by rw [HTS.out, HS.out]⟩, ⟨below_alloc HB.out _⟩⟩
      case measure => show ds.length - (i + 1).toNat < ds.length - i.toNat; omega
    · have HT : Aside0 (s = sumS (inO ds o)) := ⟨by
        rw [sumS_all HP.out.1]
        have := HS.out
        rwa [show i.toNat = ds.length by omega, List.take_length] at this⟩
      have hsb : 0 ≤ s ∧ s ≤ 68719476736 := by
        have := sumS_bd (inO ds o) (fun d hd => (inO_bd HDK.out HR.out d hd).2)
        rw [← HT.out, inO_length] at this
        omega
      obtain ⟨hsb0, hsb1⟩ := hsb
      go_wp2_with fail
      clear hlt h0 h1 hs0 hs1 HS
      obtain ⟨wo, rfl⟩ : ∃ wo : World, wo = wr := ⟨_, rfl⟩
      go_loop [8, 9, 12, 13, 36] (fun v8 v9 v12 v13 v36 => ∃ (p l : Int) (i : Nat), v8 = .int .i64 p ∧ v9 = .int .i64 l ∧ v36 = .int .i64 i ∧ i ≤ o.length ∧ 0 ≤ p ∧ p ≤ (i : Int) * 1073741824 ∧ 0 ≤ l ∧ l ≤ 68719476736 ∧ Aside0 (p = sumP ((inO ds o).take i)) ∧ Aside0 (l = sumS ((inO ds o).drop i)) ∧ Aside0 (∀ j, j < i → critV ds o j ≠ spanF ds o)) (fun _ _ _ _ v => o.length - (intOf v).toNat)
      case atStart => exact ⟨0, s, 0, rfl, rfl, rfl, by omega, by omega, by omega, by omega, by omega, ⟨rfl⟩, HT, ⟨fun j hj => by omega⟩⟩
      case round =>
        obtain ⟨p, l, i, rfl, rfl, rfl, h1, hp0, hp1, hl0, hl1, HPp, HLl, HJ⟩ := hrel
        clear HT
        by_cases hlt : i < o.length
        · have hlti : (i : Int) < o.length := by omega
          obtain ⟨ad, e1, g1⟩ := Kd.at_int (Kd.C_below HK.out.2 HB.out) (i : Int) (by omega) hlti
          subst e1
          rw [Int.toNat_natCast] at g1
          have hmem : rd o (i : Int) ∈ o := by
            unfold rd
            rw [Int.toNat_natCast, List.getD_eq_getElem?_getD, List.getElem?_eq_getElem hlt]
            exact List.getElem_mem _
          have hxr := HR.out _ hmem
          have ht1 := takeP_succ ds o i hlt
          have ht2 := dropS_succ ds o i hlt
          obtain ⟨x, hx⟩ : ∃ z, z = rd o (i : Int) := ⟨_, rfl⟩
          rw [← hx] at g1 hxr ht1 ht2
          obtain ⟨hx0, hx1⟩ := hxr
          obtain ⟨ad2, e2, g2, g3⟩ := at_P (Kd.C_below HK.out.1 HB.out) x hx0 hx1
          subst e2
          have hb := HDK.out.at_ x hx0 hx1
          obtain ⟨y1, hy1⟩ : ∃ z, z = (rdP ds x).1 := ⟨_, rfl⟩
          obtain ⟨y2, hy2⟩ : ∃ z, z = (rdP ds x).2 := ⟨_, rfl⟩
          rw [← hy1] at g2 hb ht1
          rw [← hy2] at g3 hb ht2
          obtain ⟨⟨hb1, hb2⟩, hb3, hb4⟩ := hb
          have hdS := sumS_bd ((inO ds o).drop (i + 1)) (fun d hd => (inO_bd HDK.out HR.out d (List.mem_of_mem_drop hd)).2)
          have hly : y2 ≤ l := by rw [HLl.out, ht2]; omega
          have hV : critV ds o i = p + y1 + l := by unfold critV; rw [ht1, ← HPp.out, ← HLl.out]
          have HT1 := Aside0.mk ht1
          have HT2 := Aside0.mk ht2
          have HV := Aside0.mk hV
          clear hmem hx hy1 hy2 ht1 ht2 hdS hV
          have hadd : 0 ≤ p + y1 + l ∧ p + y1 + l ≤ 1000000000000 := by omega
          obtain ⟨ha0, ha1⟩ := hadd
          by_cases heq : p + y1 + l = m
          · have hbq : (p + y1 + l == m) = true := by simpa using heq
            have HQ := Aside0.mk heq; clear heq
            go_wp2_with fail
            refine bodyPost_ret (v := .tuple #[.int .i64 i, .int .i64 0]) (by simp [results, Try.results38, go_sem]) rfl ?_
            exact ⟨HB.out, i, by rw [← HE.out], fun _ => .inl ⟨i, rfl, hlt, by rw [HV.out, HQ.out, HM.out], HJ.out⟩, fun h => absurd HE.out.symm h⟩
          · have hbq : (p + y1 + l == m) = false := by simpa using heq
            have HQ := Aside0.mk heq; clear heq
            go_wp2_with fail
            go_round
            case rel =>
              refine ⟨p + y1, l - y2, i + 1, by go_num, by go_num, by go_num, by omega, by omega, by omega, by omega, by omega, ⟨by rw [HT1.out, HPp.out]⟩, ⟨by rw [HLl.out, HT2.out]; omega⟩, ⟨fun j hj => ?_⟩⟩
              rcases (show j < i ∨ j = i by omega) with h | rfl
              · exact HJ.out j h
              · rw [HV.out, ← HM.out]; exact HQ.out
            case measure => show o.length - ((i : Int) + 1).toNat < o.length - (i : Int).toNat; omega
        · have hlti : ¬ (i : Int) < o.length := by omega
          go_wp2_with fail
          refine bodyPost_ret (v := .tuple #[.int .i64 (-1), .int .i64 0]) (by simp [results, Try.results38, go_sem]) rfl ?_
          exact ⟨HB.out, -1, by rw [← HE.out], fun _ => .inr ⟨rfl, fun j hj => HJ.out j (by omega)⟩, fun h => absurd HE.out.symm h⟩
end Go.Proofs.Ytnoocdobldchoaa
