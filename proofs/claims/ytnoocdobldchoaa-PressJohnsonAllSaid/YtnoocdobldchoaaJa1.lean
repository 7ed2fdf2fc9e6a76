/- What PressJohnsonAll answers: every order of a few dumps is gone through. -/
import Derived.Test.YtnoocdobldchoaaJo3
namespace Go.Proofs.Ytnoocdobldchoaa
open Go.RowKit Go.Proofs.YtnoocdobldchoaaW.PrintWords Go.Proofs.YtnoocdobldchoaaW.PrintMore Go.Proofs.YtnoocdobldchoaaW.PrintLast

theorem info3j : (Try.prog.info? 3).map (fun i => (i.zero, i.size, i.bytes)) = some (some (.int .i64 0), 1, 8) := by kernel_rfl
set_option maxRecDepth 100000 in
set_option maxHeartbeats 8000000 in
theorem orders_all (ds : List (Int × Int)) (m : Int) (h0 : dumpsE ds = 0) (h6 : ds.length ≤ 6) (hm : m = spanF ds (jord ds)) : ∀ (r : Nat) (w : World) (A B : Option Addr) (c d : Nat) (o : List Int), o.length + r = ds.length → o.Nodup → (∀ x ∈ o, 0 ≤ x ∧ x < ds.length) → kP.C w A ds.length ds → (Kd.int .i64).C w B o.length o →
    Calls Try.prog 35 #[.slice A ds.length c, .slice B o.length d, .int .i64 m] w fun e w' => e = .returned (.bool true) ∧ Below w.heap.size w w' := by
  intro r
  induction r with
  | zero =>
    intro w A B c d o hol hnd hr h k
    have hp : o.Perm (upto ds.length) := perm_upto _ _ hnd hr (by omega)
    have hmk := makespan_any w A B c d ds o h k
    have hf : orderedE ds o = 0 := by unfold orderedE; rw [if_neg (by simpa using h0), if_pos hp]
    have hmf : makeF ds o = spanF ds o := by unfold makeF; rw [if_pos hf]
    have hle := jord_best h0 hp
    rw [hf, hmf] at hmk
    rw [← hm] at hle
    obtain ⟨n, hn⟩ : ∃ z, z = spanF ds o := ⟨_, rfl⟩
    rw [← hn] at hmk hle
    have HM := Aside0.mk hmk
    have hd : decide (m ≤ n) = true := decide_eq_true hle
    have heq : ((o.length : Int) == (ds.length : Int)) = true := by simp; omega
    clear hmk hn hle hf hmf hp hr hnd h k hm h0 hol
    go_enter Try.func35, Try.ntmps35
    go_wp2_with ((with_reducible refine HM.out.mono ?_); rintro e1 w1 ⟨rfl, hb1⟩; have H1 := Aside0.mk hb1; clear hb1)
    go_ret
    exact ⟨rfl, H1.out⟩
  | succ r ih =>
    intro w A B c d o hol hnd hr h k
    have heq : ((o.length : Int) == (ds.length : Int)) = false := by simp; omega
    have hlo : o.length + 1 ≤ ds.length := by omega
    have HK := Aside0.mk (And.intro h k)
    have HN := Aside0.mk (And.intro hnd (And.intro hr hol))
    have IH := Aside0.mk ih
    clear ih h k hnd hr hm h0 hol
    go_enter Try.func35, Try.ntmps35
    go_upto_region 5 with fail
    clear heq
    go_loopw [9] (fun v9 wr => ∃ i : Nat, v9 = .int .i64 i ∧ i ≤ ds.length ∧ Aside0 (Below w.heap.size w wr)) (fun v _ => ds.length - (intOf v).toNat)
    case atStart => exact ⟨0, rfl, by omega, ⟨Below.refl _ _⟩⟩
    case round =>
      obtain ⟨i, rfl, hi, HB⟩ := hrel
      by_cases hlt : i < ds.length
      · have hlti : (i : Int) < ds.length := by omega
        go_upto_region 9 with fail
        obtain ⟨w1, hw1⟩ : ∃ z, z = wr := ⟨_, rfl⟩
        subst hw1
        go_loop [10, 11] (fun v10 v11 => ∃ (b : Bool) (q : Nat), v10 = .bool b ∧ v11 = .int .i64 q ∧ q ≤ o.length ∧ Aside0 (b = true ↔ (i : Int) ∈ o.take q)) (fun _ v => o.length - (intOf v).toNat)
        case atStart => exact ⟨false, 0, rfl, rfl, by omega, ⟨by simp⟩⟩
        case round =>
          obtain ⟨b, q, rfl, rfl, hq, HQ⟩ := hrel
          by_cases hql : q < o.length
          · have hqli : (q : Int) < o.length := by omega
            obtain ⟨ad, e1, g1⟩ := Kd.at_int (Kd.C_below HK.out.2 HB.out) (q : Int) (by omega) hqli
            subst e1
            have htk : o.take (q + 1) = o.take q ++ [rd o q] := by
              rw [List.take_succ_eq_append_getElem hql]
              simp [rd, List.getD_eq_getElem?_getD, List.getElem?_eq_getElem hql]
            obtain ⟨x, hx⟩ : ∃ z, z = rd o (q : Int) := ⟨_, rfl⟩
            rw [← hx] at g1 htk
            rw [Int.toNat_natCast] at g1
            have HT := Aside0.mk htk
            clear hx htk
            cases b with
            | true =>
              go_wp2_with fail
              go_round
              case rel => exact ⟨true, q + 1, rfl, by go_num, by omega, ⟨by rw [HT.out, List.mem_append]; simp [HQ.out.1 rfl]⟩⟩
              case measure => show o.length - ((q : Int) + 1).toNat < o.length - (q : Int).toNat; omega
            | false =>
              have hni : (i : Int) ∉ o.take q := fun e => by have := HQ.out.2 e; cases this
              by_cases hxi : x = i
              · have hb : (x == (i : Int)) = true := by simp [hxi]
                have HX := Aside0.mk hxi; clear hxi
                go_wp2_with fail
                go_round
                case rel => exact ⟨true, q + 1, rfl, by go_num, by omega, ⟨by rw [HT.out, List.mem_append]; simp [HX.out]⟩⟩
                case measure => show o.length - ((q : Int) + 1).toNat < o.length - (q : Int).toNat; omega
              · have hb : (x == (i : Int)) = false := by simp [hxi]
                have HX := Aside0.mk hxi; clear hxi
                go_wp2_with fail
                go_round
                case rel => exact ⟨false, q + 1, rfl, by go_num, by omega, ⟨by rw [HT.out, List.mem_append]; simp [hni, Ne.symm HX.out]⟩⟩
                case measure => show o.length - ((q : Int) + 1).toNat < o.length - (q : Int).toNat; omega
          · have hqli : ¬ (q : Int) < o.length := by omega
            have HQ2 : Aside0 (b = true ↔ (i : Int) ∈ o) := ⟨by have := HQ.out; rwa [List.take_of_length_le (by omega)] at this⟩
            clear HQ
            cases b with
            | true =>
              go_wp2_with fail
              go_roundw
              case rel => exact ⟨i + 1, by go_num, by omega, HB⟩
              case measure => show ds.length - ((i : Int) + 1).toNat < ds.length - (i : Int).toNat; omega
            | false =>
              have hni : (i : Int) ∉ o := fun e => by have := HQ2.out.2 e; cases this
              have HI := Aside0.mk hni
              clear hni HQ2
              obtain ⟨o2, ho2⟩ : ∃ z, z = o ++ [(i : Int)] := ⟨_, rfl⟩
              have ho2l : o2.length ≤ 6 := by rw [ho2, List.length_append, List.length_singleton]; omega
              have HO2 := Aside0.mk ho2
              clear ho2
              go_upto_region 15 with ((with_reducible refine gate_builtin (b := .append) (xs := #[.tmp 53, .tmp 54]) rfl ?_); at_builtin; refine Kd.R_append_rows (Kd.int .i64) (w0 := w1) w1.heap.size rfl (.tmp 53) (.tmp 54) 22 3 (.int .i64 0) 8 rfl Try.underlying22 info3j rfl (by decide) (by omega) (.slice none 0 0) [] o _ _ _ (fun _ => True) (fun _ => False) rfl rfl ?aO ?aR (fun _ _ h => h) (fun _ h => h.elim) ?aF ?aB ?aS ?aL ?_; (case aR => exact Kd.C_below HK.out.2 HB.out); (case aB => exact Below.refl _ _); (case aF => exact (fun _ _ => trivial)); (case aO => exact Kd.R_nil _ _ _ _ _); (case aS => exact Nat.le_refl _); (case aL => simp; omega); intro v3 w3 ho hb hg hat; rw [List.nil_append] at ho; have H3 := Aside0.mk (And.intro ho hb); clear ho hb hg hat)
              go_upto_region 16 with ((with_reducible refine gate_builtin (b := .append) (xs := #[.tmp 56, .tmp 58]) rfl ?_); at_builtin; refine Kd.R_append (Kd.int .i64) (w0 := w1) w1.heap.size rfl (.tmp 56) (.tmp 58) 22 3 (.int .i64 0) 8 rfl Try.underlying22 info3j rfl (by decide) (by omega) v3 o (i : Int) [.int .i64 (i : Int)] (fun _ => True) (fun _ => False) rfl rfl ?aP (fun _ hk => hk.elim) ?aF ?aO ?aB ?aS ?aL ?_; (case aP => exact rfl); (case aB => exact H3.out.2); (case aF => exact (fun _ _ => trivial)); (case aO => exact H3.out.1); (case aS => exact (below_size H3.out.2)); (case aL => omega); intro v4 w4 ho hb hg hat; rw [← HO2.out] at ho; have H4 := Aside0.mk (And.intro ho hb); clear ho hb hg hat)
              obtain ⟨A4, c4, e4⟩ := Kd.R_slice H4.out.1
              subst e4
              have hcall := IH.out w4 A A4 c c4 o2 (by rw [HO2.out, List.length_append, List.length_singleton]; have := HN.out.2.2; omega) (by
                rw [HO2.out, List.nodup_append]
                refine ⟨HN.out.1, by simp, fun a ha b hb e => HI.out ?_⟩
                rw [List.mem_singleton] at hb
                rw [← hb, ← e]; exact ha) (fun x hx => by
                rw [HO2.out] at hx
                rcases List.mem_append.1 hx with h | h
                · exact HN.out.2.1 x h
                · rw [List.mem_singleton.1 h]; exact ⟨by omega, hlti⟩) (Kd.C_below HK.out.1 (below_step HB.out H4.out.2)) (Kd.R_reads' H4.out.1).2.2
              have HCL := Aside0.mk hcall
              clear hcall
              go_wp2_with ((with_reducible refine HCL.out.mono ?_); rintro e5 w5 ⟨rfl, hb5⟩; have H5 := Aside0.mk (below_step (below_step HB.out H4.out.2) hb5); clear hb5)
              go_roundw
              case rel => exact ⟨i + 1, by go_num, by omega, H5⟩
              case measure => show ds.length - ((i : Int) + 1).toNat < ds.length - (i : Int).toNat; omega
      · have hlti : ¬ (i : Int) < ds.length := by omega
        go_wp2_with fail
        go_ret
        exact ⟨rfl, HB.out⟩
set_option maxHeartbeats 4000000 in
theorem jall_few (w : World) (A : Option Addr) (c : Nat) (ds : List (Int × Int)) (h : kP.C w A ds.length ds) (h6 : ds.length ≤ 6) :
    Calls Try.prog 11 #[.slice A ds.length c] w fun e w' => e = .returned (.bool true) ∧ Below w.heap.size w w' := by
  have ha := Aside0.mk alive_any
  have d1 : decide ((6 : Int) < ds.length) = false := decide_eq_false (by omega)
  have hs := seq_tri w A c ds h
  have HK := Aside0.mk h
  obtain ⟨e0, he0⟩ : ∃ z, z = dumpsE ds := ⟨_, rfl⟩
  rw [← he0] at hs
  have HS := Aside0.mk hs
  have HE := Aside0.mk he0
  clear hs he0 h
  go_enter Try.func11, Try.ntmps11
  go_upto_region 4 with ((with_reducible refine HS.out.mono ?_); rintro e1 w1 ⟨A1, n1, c1, m1, l1, rfl, hb1, hC1, hB1⟩; have H1 := Aside0.mk (And.intro hb1 hB1); clear hb1 hC1 hB1)
  clear HS d1
  by_cases hz : e0 = 0
  · have hzb : (e0 != 0) = false := by simp [hz]
    have hE0 := HE.out.symm.trans hz
    have hcall := orders_all ds m1 hE0 h6 (H1.out.2.1 hE0).2.1 ds.length w1 A none c 0 [] (by simp) List.nodup_nil (by simp) (Kd.C_below HK.out H1.out.1) (nil_C _)
    rw [List.length_nil] at hcall
    have HCL := Aside0.mk hcall
    clear hcall hE0
    go_wp2_with (first | ((with_reducible refine HCL.out.mono ?_); rintro e5 w5 ⟨rfl, hb5⟩; have H5 := Aside0.mk (below_step H1.out.1 hb5); clear hb5) | ((with_reducible refine (ha.out _).mono ?_); rintro e8 w8 ⟨rfl, hb8⟩; have H8 := Aside0.mk (below_step H5.out hb8); clear hb8))
    go_ret
    exact ⟨rfl, H8.out⟩
  · have hzb : (e0 != 0) = true := by simp [hz]
    go_wp2_with ((with_reducible refine (ha.out _).mono ?_); rintro e8 w8 ⟨rfl, hb8⟩; have H8 := Aside0.mk (below_step H1.out.1 hb8); clear hb8)
    go_ret
    exact ⟨rfl, H8.out⟩
set_option maxHeartbeats 4000000 in
theorem jall_many (w : World) (A : Option Addr) (n c : Nat) (ds : List (Int × Int)) (hn : 6 < n) (hnc : n ≤ c) (hl : ds.length = 6) (h : kP.C w A 6 ds) :
    Calls Try.prog 11 #[.slice A n c] w fun e w' => e = .returned (.bool true) ∧ Below w.heap.size w w' := by
  have ha := Aside0.mk alive_any
  have d1 : decide ((6 : Int) < n) = true := decide_eq_true (by omega)
  obtain ⟨ad, e1, _⟩ := at_P h 0 (by omega) (by omega)
  subst e1
  have hs := fun q => seq_tri w (some ad) q ds (by rw [hl]; exact h)
  rw [hl] at hs
  have HK := Aside0.mk (And.intro h hl)
  obtain ⟨e0, he0⟩ : ∃ z, z = dumpsE ds := ⟨_, rfl⟩
  rw [← he0] at hs
  have HS := Aside0.mk hs
  have HE := Aside0.mk he0
  clear hs he0 h hl
  go_enter Try.func11, Try.ntmps11
  go_upto_region 3 with fail
  go_upto_region 4 with ((with_reducible refine (HS.out _).mono ?_); rintro e1 w1 ⟨A1, n1, c1, m1, l1, rfl, hb1, hC1, hB1⟩; have H1 := Aside0.mk (And.intro hb1 hB1); clear hb1 hC1 hB1)
  clear HS d1
  by_cases hz : e0 = 0
  · have hzb : (e0 != 0) = false := by simp [hz]
    have hE0 := HE.out.symm.trans hz
    have hcall := fun q => orders_all ds m1 hE0 (by rw [HK.out.2]; omega) (H1.out.2.1 hE0).2.1 ds.length w1 (some ad) none q 0 [] (by simp) List.nodup_nil (by simp) (by rw [HK.out.2]; exact Kd.C_below HK.out.1 H1.out.1) (nil_C _)
    rw [List.length_nil, HK.out.2] at hcall
    have HCL := Aside0.mk hcall
    clear hcall hE0
    go_wp2_with (first | ((with_reducible refine (HCL.out _).mono ?_); rintro e5 w5 ⟨rfl, hb5⟩; have H5 := Aside0.mk (below_step H1.out.1 hb5); clear hb5) | ((with_reducible refine (ha.out _).mono ?_); rintro e8 w8 ⟨rfl, hb8⟩; have H8 := Aside0.mk (below_step H5.out hb8); clear hb8))
    go_ret
    exact ⟨rfl, H8.out⟩
  · have hzb : (e0 != 0) = true := by simp [hz]
    go_wp2_with ((with_reducible refine (ha.out _).mono ?_); rintro e8 w8 ⟨rfl, hb8⟩; have H8 := Aside0.mk (below_step H1.out.1 hb8); clear hb8)
    go_ret
    exact ⟨rfl, H8.out⟩
theorem kP_take {w : World} {A : Option Addr} {n : Nat} {ds : List (Int × Int)} (h : kP.C w A n ds) (m : Nat) (hm : m ≤ n) : kP.C w A m (ds.take m) := by
  obtain ⟨h1, h2, h3⟩ := h
  refine ⟨by rw [List.length_take]; omega, by omega, fun hp => ?_⟩
  obtain ⟨ad, e, h4⟩ := h3 (by omega)
  refine ⟨ad, e, fun j p hj => ?_⟩
  rw [List.getElem?_take] at hj
  by_cases hjm : j < m
  · rw [if_pos hjm] at hj
    exact h4 j p hj
  · rw [if_neg hjm] at hj; cases hj
theorem pjall_any (w : World) (A : Option Addr) (c : Nat) (ds : List (Int × Int)) (h : kP.C w A ds.length ds) (hc : ds.length ≤ c) :
    Calls Try.prog 11 #[.slice A ds.length c] w fun e w' => e = .returned (.bool true) ∧ Below w.heap.size w w' := by
  by_cases h6 : 6 < ds.length
  · exact jall_many w A ds.length c (ds.take 6) h6 hc (by rw [List.length_take]; omega) (kP_take h 6 (by omega))
  · exact jall_few w A c ds h (by omega)
end Go.Proofs.Ytnoocdobldchoaa
