/- What ClassingShuffled answers: its walk. -/
import Derived.Test.YthkfahkkcjagdaaSh2
import Derived.Test.YthkfahkkcjagdaaWRepsOne
import Derived.BigQuiet
namespace Go.Proofs.Ythkfahkkcjagdaa
open Go.RowKit Go.Proofs.YthkfahkkcjagdaaW.PrintWords Go.Proofs.YthkfahkkcjagdaaW.PrintMore Go.Proofs.YthkfahkkcjagdaaW.PrintLast

/-- Two fleeces of one kind and diameter, but of two masses. -/
def badP (fs : List Fl) (i k : Nat) : Prop := sameK (rdF fs k) (rdF fs i) = true ∧ (rdF fs k).mic = (rdF fs i).mic ∧ (rdF fs k).gr ≠ (rdF fs i).gr
theorem at_Fn {w : World} {A : Option Addr} {n : Nat} {xs : List Fl} (h : kF.C w A n xs) (i : Nat) (h1 : i < n) : ∃ ad, A = some ad ∧ w.cell? (ad.add (i * 6)) = some (.int .u8 (rdF xs i).k0) ∧ w.cell? ⟨(ad.add (i * 6)).block, (ad.add (i * 6)).off + 1, none⟩ = some (.int .u8 (rdF xs i).k1) ∧ w.cell? ⟨(ad.add (i * 6)).block, (ad.add (i * 6)).off + 2, none⟩ = some (.int .u8 (rdF xs i).k2) ∧ w.cell? ⟨(ad.add (i * 6)).block, (ad.add (i * 6)).off + 3, none⟩ = some (.int .u8 (rdF xs i).k3) ∧ w.cell? ⟨(ad.add (i * 6)).block, (ad.add (i * 6)).off + 4, none⟩ = some (.int .i64 (rdF xs i).mic) ∧ w.cell? ⟨(ad.add (i * 6)).block, (ad.add (i * 6)).off + 5, none⟩ = some (.int .i64 (rdF xs i).gr) := by
  have := at_F h (i : Int) (by omega) (by omega)
  rwa [Int.toNat_natCast] at this

theorem rowU {w : World} {x : Addr} {len cap : Nat} {zs : List Int} {k : IntKind} (hl : len ≤ cap) (hm : cap ≤ maxLen) (hz : zs.length = cap) (hc : ∀ i, i < zs.length → w.cell? (x.add i) = some (.int k (zs.getD i 0))) : (Kd.int k).C w (some x) len (zs.take len) := by
  refine ⟨by rw [List.length_take]; omega, by unfold maxLen at hm; omega, fun _ => ⟨x, rfl, fun j p hp => ⟨[.int k p], rfl, rfl, fun i u hu => ?_⟩⟩⟩
  have hj : j < len := by
    have := (List.getElem?_eq_some_iff.1 hp).1
    rw [List.length_take] at this
    omega
  rw [List.getElem?_take, if_pos hj] at hp
  have h1 := hc j (by omega)
  rw [List.getD_eq_getElem?_getD, hp] at h1
  have hi : i = 0 := by
    have := (List.getElem?_eq_some_iff.1 hu).1
    simpa using this
  subst hi
  rw [List.getElem?_cons_zero] at hu
  cases hu
  show w.cell? (x.add (j * 1 + 0)) = _
  rw [Nat.mul_one, Nat.add_zero]
  exact h1
theorem grown_none {w w' : World} (h : w.grownBy w' (Value.slice none 0 0).ownBlock) : Below w.heap.size w w' := ⟨h.os, h.tape, h.output, h.size, fun k hk => h.block k hk (by simp [Value.ownBlock])⟩
set_option maxHeartbeats 8000000 in
set_option maxRecDepth 100000 in
theorem shuffled_any (w : World) (A B : Option Addr) (n c m cb : Nat) (fs : List Fl) (zs : List Int) (hn : fs.length = n) (h : kF.C w A n fs) (hk : KOK fs) (hr : (Kd.int .u8).C w B m zs) (hz : ∀ z ∈ zs, 0 ≤ z ∧ z ≤ 255) (l least p : Int) :
    Calls Try.prog 5 #[.slice A n c, .agg #[.int .i64 l, .int .i64 least, .int .i64 p], .slice B m cb] w fun e w' => e = .returned (.bool true) ∧ Below w.heap.size w w' := by
  have hmax := Kd.C_max h
  have hmaxm := Kd.C_max hr
  have b1 := below_alloc (Below.refl w.heap.size w) (.cells #[.int .i64 l, .int .i64 least, .int .i64 p] 24)
  have q1 := Blk.new w [.int .i64 l, .int .i64 least, .int .i64 p] 24
  have HFW := Aside0.mk (fun W => few_any W A n c hmax)
  have HAL := Aside0.mk alive_any
  have HC := Aside0.mk (And.intro hk (And.intro hn (And.intro hz (Kd.C_len hr))))
  have H1 := Aside0.mk (And.intro b1 (And.intro q1 (And.intro (Kd.C_below h b1) (Kd.C_below hr b1))))
  clear h hk hn b1 q1 hr hz
  by_cases h140 : (n : Int) ≤ 140
  · have hd : decide ((n : Int) ≤ 140) = true := decide_eq_true h140
    rw [hd] at HFW
    go_enter Try.func5, Try.ntmps5
    go_upto_region 3 with ((with_reducible refine (HFW.out _).mono ?_); rintro e5 w5 ⟨rfl, rfl⟩)
    generalize (w.alloc (.cells #[.int .i64 l, .int .i64 least, .int .i64 p] 24)) = w1 at H1 ⊢
    obtain ⟨b4, hb4⟩ : ∃ z, z = w.heap.size := ⟨_, rfl⟩
    rw [← hb4] at H1 ⊢
    have HB4 := Aside0.mk hb4; clear hb4
    have HBW : Aside0 (Below w.heap.size w w1) := ⟨by rw [← HB4.out]; exact H1.out.1⟩
    go_wp2_with fail
    go_loopw [7, 8] (fun v7 _ wr => ∃ i : Nat, v7 = .int .i64 i ∧ i ≤ n ∧ Aside0 (∀ a b : Nat, b < a → a < i → ¬ badP fs a b) ∧ ∃ q, wr = w1.drewN q) (fun v7 _ _ => n - (intOf v7).toNat)
    case atStart => exact ⟨0, rfl, by omega, ⟨fun a b _ h => by omega⟩, 0, rfl⟩
    case round =>
      obtain ⟨i, rfl, hi, HI, q, rfl⟩ := hrel
      by_cases hlt : i < n
      · have hlti : (i : Int) < n := by omega
        go_wp2_with fail
        go_loopw [8] (fun v8 wr => ∃ k : Nat, v8 = .int .i64 k ∧ k ≤ i ∧ Aside0 (∀ a b : Nat, b < a → (a < i ∨ a = i ∧ b < k) → ¬ badP fs a b) ∧ ∃ q, wr = w1.drewN q) (fun v8 _ => i - (intOf v8).toNat)
        case atStart => exact ⟨0, rfl, by omega, ⟨fun a b h1 h2 => by rcases h2 with h2 | h2; exact HI.out a b h1 h2; omega⟩, q, rfl⟩
        case round =>
          obtain ⟨k, rfl, hki, HK, q2, rfl⟩ := hrel
          clear HI
          by_cases hlk : k < i
          · have hlki : (k : Int) < i := by omega
            have hkn : k < n := by omega
            have hkni : (k : Int) < n := by omega
            obtain ⟨ad, e1, f0, f1, f2, f3, f4, f5⟩ := at_Fn H1.out.2.2.1 i hlt
            subst e1
            obtain ⟨ad2, e2, g0, g1, g2, g3, g4, g5⟩ := at_Fn H1.out.2.2.1 k hkn
            cases e2
            have HBAD : Aside0 (badP fs i k ↔ sameK (rdF fs k) (rdF fs i) = true ∧ (rdF fs k).mic = (rdF fs i).mic ∧ (rdF fs k).gr ≠ (rdF fs i).gr) := ⟨Iff.rfl⟩
            obtain ⟨f, hf⟩ : ∃ z, z = rdF fs i := ⟨_, rfl⟩
            obtain ⟨g, hg⟩ : ∃ z, z = rdF fs k := ⟨_, rfl⟩
            rw [← hf] at f0 f1 f2 f3 f4 f5 HBAD
            rw [← hg] at g0 g1 g2 g3 g4 g5 HBAD
            clear hf hg
            obtain ⟨x0, x1, x2, x3, x4, x5⟩ := f
            obtain ⟨y0, y1, y2, y3, y4, y5⟩ := g
            dsimp only at f0 f1 f2 f3 f4 f5 g0 g1 g2 g3 g4 g5
            by_cases hbad : badP fs i k
            · have hb := HBAD.out.1 hbad
              unfold sameK at hb
              rw [decide_eq_true_eq] at hb
              dsimp only at hb
              obtain ⟨⟨rfl, rfl, rfl, rfl⟩, rfl, hne⟩ := hb
              have hneb : (y5 != x5) = true := by simpa using hne
              have ke : ∀ W, (Op.equalIn 10000 34 (.agg #[.int .u8 y0, .int .u8 y1, .int .u8 y2, .int .u8 y3]) (.agg #[.int .u8 y0, .int .u8 y1, .int .u8 y2, .int .u8 y3])).run Try.prog W = .ok true W := fun W => by rw [kind_eql, decide_eq_true ⟨rfl, rfl, rfl, rfl⟩]
              clear hbad HBAD HK hne
              go_upto_region 9 with fail
              go_quiet (fail)
              go_wp2_with ((with_reducible refine (HAL.out _).mono ?_); rintro e6 w6 ⟨rfl, hb6⟩; have HB6 := Aside0.mk (below_step HBW.out (below_step (bdN _ _) hb6)); clear hb6)
              go_ret
              exact ⟨rfl, HB6.out⟩
            · have HNX : Aside0 (∀ a b : Nat, b < a → (a < i ∨ a = i ∧ b < k + 1) → ¬ badP fs a b) := ⟨fun a b h1 h2 => by
                by_cases h3 : a = i ∧ b = k
                · obtain ⟨rfl, rfl⟩ := h3; exact hbad
                · exact HK.out a b h1 (by omega)⟩
              have hnb := fun h => hbad (HBAD.out.2 h)
              unfold sameK at hnb
              rw [decide_eq_true_eq] at hnb
              dsimp only at hnb
              clear hbad HBAD HK
              by_cases hke : y0 = x0 ∧ y1 = x1 ∧ y2 = x2 ∧ y3 = x3
              · have ke : ∀ W, (Op.equalIn 10000 34 (.agg #[.int .u8 y0, .int .u8 y1, .int .u8 y2, .int .u8 y3]) (.agg #[.int .u8 x0, .int .u8 x1, .int .u8 x2, .int .u8 x3])).run Try.prog W = .ok true W := fun W => by rw [kind_eql, decide_eq_true hke]
                by_cases hme : y4 = x4
                · have hge : y5 = x5 := Classical.byContradiction fun h => hnb ⟨hke, hme, h⟩
                  subst hme
                  subst hge
                  clear hnb hke
                  go_upto_region 9 with fail
                  go_quiet (fail)
                  go_wp2_with fail
                  go_roundw
                  case rel => exact ⟨k + 1, by go_num, by omega, HNX, _, rfl⟩
                  case measure => simp [intOf]; omega
                · have hmb : (y4 == x4) = false := by simpa using hme
                  clear hnb hke hme
                  go_upto_region 9 with fail
                  go_quiet (fail)
                  go_wp2_with fail
                  go_roundw
                  case rel => exact ⟨k + 1, by go_num, by omega, HNX, _, rfl⟩
                  case measure => simp [intOf]; omega
              · have ke : ∀ W, (Op.equalIn 10000 34 (.agg #[.int .u8 y0, .int .u8 y1, .int .u8 y2, .int .u8 y3]) (.agg #[.int .u8 x0, .int .u8 x1, .int .u8 x2, .int .u8 x3])).run Try.prog W = .ok false W := fun W => by rw [kind_eql, decide_eq_false hke]
                clear hnb hke
                go_upto_region 9 with fail
                go_quiet (fail)
                go_wp2_with fail
                go_roundw
                case rel => exact ⟨k + 1, by go_num, by omega, HNX, _, rfl⟩
                case measure => simp [intOf]; omega
          · have hlki : ¬ (k : Int) < i := by omega
            go_wp2_with fail
            go_roundw
            case rel => exact ⟨i + 1, by go_num, by omega, ⟨fun a b h1 h2 => HK.out a b h1 (by omega)⟩, q2, rfl⟩
            case measure => simp [intOf]; omega
      · have hlti : ¬ (i : Int) < n := by omega
        have HEQ : Aside0 (EQM fs) := ⟨EQM_of fun a b h1 h2 => HI.out a b h1 (by have := HC.out.2.1; omega)⟩
        clear HI hi
        go_upto_region 12 with fail
        obtain ⟨w2, hw2⟩ : ∃ z, z = w1.drewN q := ⟨_, rfl⟩
        have hb2 : Below w1.heap.size w1 w2 := by rw [hw2]; exact bdN _ _
        have H2 := Aside0.mk (And.intro (below_step HBW.out hb2) (And.intro (H1.out.2.1.below hb2) (And.intro (Kd.C_below H1.out.2.2.1 hb2) (Kd.C_below H1.out.2.2.2 hb2))))
        rw [← hw2]
        clear hlti hlt hw2 hb2 HBW H1
        go_wp2_with fail
        go_loopw [9, 10, 11, 12] (fun v9 v10 _ _ wr => ∃ (i : Nat) (L : List Fl), v10 = .int .i64 i ∧ i ≤ n ∧ (i = 0 → v9 = .slice none 0 0) ∧ Aside0 (kF.R 44 wr w2.heap.size (fun _ => True) v9 L ∧ L.Perm (fs.take i) ∧ Below w2.heap.size w2 wr)) (fun _ v10 _ _ _ => n - (intOf v10).toNat)
        case atStart => exact ⟨0, [], rfl, by omega, fun _ => rfl, ⟨Kd.R_nil _ _ _ _ _, by simp, Below.refl _ _⟩⟩
        case round =>
          obtain ⟨i, L, rfl, hi, hv0, HL⟩ := hrel
          by_cases hlt : i < n
          · have hlti : (i : Int) < n := by omega
            have hLl : L.length = i := by
              have := HL.out.2.1.length_eq
              rw [List.length_take] at this
              have := HC.out.2.1
              omega
            obtain ⟨A9, c9, hv9, hc9, hr9⟩ := Kd.R_reads HL.out.1
            have HLL := Aside0.mk hLl
            rw [hLl] at hv9 hc9 hr9
            have HR9 := Aside0.mk hr9; clear hr9 hLl
            obtain ⟨ad, e1, f0, f1, f2, f3, f4, f5⟩ := at_Fn (Kd.C_below H2.out.2.2.1 HL.out.2.2) i hlt
            subst e1
            subst hv9
            by_cases him : i < m
            · have himi : (i : Int) < m := by omega
              obtain ⟨adb, e2, g0⟩ := Kd.at_int (Kd.C_below H2.out.2.2.2 HL.out.2.2) (i : Int) (by omega) himi
              subst e2
              rw [Int.toNat_natCast] at g0
              have hzb := HC.out.2.2.1 (rd zs i) (by unfold rd; exact getD_mem (by rw [HC.out.2.2.2]; omega))
              obtain ⟨z, hz⟩ : ∃ z, z = rd zs i := ⟨_, rfl⟩
              rw [← hz] at g0 hzb
              clear hz
              obtain ⟨hz0, hz1⟩ := hzb
              obtain ⟨k, hk⟩ : ∃ k : Nat, Int.tmod z ((i : Int) + 1) = k := ⟨(Int.tmod z ((i : Int) + 1)).toNat, by have := Int.tmod_nonneg ((i : Int) + 1) hz0; omega⟩
              have hki : k ≤ i := by
                have := Int.tmod_lt_of_pos z (show 0 < (i : Int) + 1 by omega)
                omega
              have hnz : ¬ ((i : Int) + 1 = 0) := by omega
              go_upto_region 19 with fail
              have hkc : k ≤ c9 := by omega
              have hkci : (k : Int) ≤ c9 := by omega
              have hkii : (k : Int) ≤ i := by omega
              go_upto_region 20 with ((with_reducible refine gate_builtin (b := .append) (xs := #[.tmp 92, .tmp 95]) rfl ?_); at_builtin; refine Kd.R_append_rows kF (w0 := w2) w2.heap.size rfl (.tmp 92) (.tmp 95) 22 44 (.agg #[.int .u8 0, .int .u8 0, .int .u8 0, .int .u8 0, .int .i64 0, .int .i64 0]) 24 rfl Try.underlying22 info44 rfl (by decide) (by decide) (.slice none 0 0) [] (L.take k) _ _ _ (fun _ => True) (fun _ => False) rfl rfl ?aO ?aR (fun _ _ h => h) (fun _ h => h.elim) ?aF ?aB ?aS ?aL ?_; (case aR => exact F_take HR9.out (by omega)); (case aB => exact HL.out.2.2); (case aF => exact (fun _ _ => trivial)); (case aO => exact Kd.R_nil _ _ _ _ _); (case aS => exact HL.out.2.2.size); (case aL => first | (simp; done) | (simp; omega)); intro v3 w3 ho hb hg hat; rw [List.nil_append] at ho; have H3 := Aside0.mk (And.intro ho (And.intro hb (And.intro hg hat))); clear ho hb hg hat)
              clear g0 f0 f1 f2 f3 f4 f5
              obtain ⟨ad3, e3, f0, f1, f2, f3, f4, f5⟩ := at_Fn (Kd.C_below H2.out.2.2.1 H3.out.2.1) i hlt
              cases e3
              obtain ⟨f, hf⟩ : ∃ z, z = rdF fs i := ⟨_, rfl⟩
              rw [← hf] at f0 f1 f2 f3 f4 f5
              have HFE := Aside0.mk hf; clear hf
              obtain ⟨x0, x1, x2, x3, x4, x5⟩ := f
              dsimp only at f0 f1 f2 f3 f4 f5
              have htl : (L.take k).length = k := by rw [List.length_take, HLL.out]; omega
              have HTL := Aside0.mk htl; clear htl
              go_upto_region 21 with ((with_reducible refine gate_builtin (b := .append) (xs := #[.tmp 97, .tmp 102]) rfl ?_); at_builtin; refine Kd.R_append kF (w0 := w2) w2.heap.size rfl (.tmp 97) (.tmp 102) 22 44 (.agg #[.int .u8 0, .int .u8 0, .int .u8 0, .int .u8 0, .int .i64 0, .int .i64 0]) 24 rfl Try.underlying22 info44 rfl (by decide) (by decide) v3 (L.take k) ⟨x0, x1, x2, x3, x4, x5⟩ (fcs ⟨x0, x1, x2, x3, x4, x5⟩) (fun _ => True) (fun _ => False) rfl rfl ?aP (fun _ hk => hk.elim) ?aF ?aO ?aB ?aS ?aL ?_; (case aP => exact rfl); (case aB => exact H3.out.2.1); (case aF => exact (fun _ _ => trivial)); (case aO => exact H3.out.1); (case aS => exact H3.out.2.1.size); (case aL => rw [HTL.out]; omega); intro v4 w4 ho hb hg hat; have H4 := Aside0.mk (And.intro ho (And.intro hb hg)); clear ho hb hg hat)
              clear f0 f1 f2 f3 f4 f5
              have hr4 : kF.R 44 w4 w2.heap.size (fun _ => True) (.slice A9 i c9) L := F_grown (w' := w3) HL.out.1 (grown_none H3.out.2.2.1) H4.out.2.2 (fun k hk => by
                rcases H3.out.2.2.2 with h | ⟨b, h, h1⟩
                · rw [h] at hk; cases hk
                · rw [h] at hk; cases hk; exact h1)
              have HD := Aside0.mk (F_drop hr4 (k := k) (by omega) hc9); clear hr4
              go_upto_region 14 with ((with_reducible refine gate_builtin (b := .append) (xs := #[.tmp 104, .tmp 107]) rfl ?_); at_builtin; refine Kd.R_append_rows kF (w0 := w2) w2.heap.size rfl (.tmp 104) (.tmp 107) 22 44 (.agg #[.int .u8 0, .int .u8 0, .int .u8 0, .int .u8 0, .int .i64 0, .int .i64 0]) 24 rfl Try.underlying22 info44 rfl (by decide) (by decide) v4 (L.take k ++ [⟨x0, x1, x2, x3, x4, x5⟩]) (L.drop k) _ _ _ (fun _ => True) (fun _ => False) rfl rfl ?aO ?aR (fun _ _ h => h) (fun _ h => h.elim) ?aF ?aB ?aS ?aL ?_; (case aR => exact HD.out); (case aB => exact H4.out.2.1); (case aF => exact (fun _ _ => trivial)); (case aO => exact H4.out.1); (case aS => exact H4.out.2.1.size); (case aL => rw [List.length_append, HTL.out]; first | (simp; done) | (simp; omega)); intro v5 w5 ho hb hg hat; have H5 := Aside0.mk (And.intro ho hb); clear ho hb hg hat)
              have HN : Aside0 (kF.R 44 w5 w2.heap.size (fun _ => True) v5 (insL k (rdF fs i) L) ∧ (insL k (rdF fs i) L).Perm (fs.take (i + 1)) ∧ Below w2.heap.size w2 w5) := ⟨by
                have := H5.out.1
                rw [← HFE.out]
                unfold insL
                simpa using this, ins_step (by rw [HC.out.2.1]; exact hlt) HL.out.2.1 k, H5.out.2⟩
              go_wp2_with fail
              go_roundw
              case rel => exact ⟨i + 1, _, by go_num, by omega, fun h => by omega, HN⟩
              case measure => simp [intOf]; omega
            · have himi : ¬ (i : Int) < m := by omega
              have hk00 : (((0 : Nat)) : Int) = 0 := rfl
              go_upto_region 19 with fail
              go_upto_region 20 with ((with_reducible refine gate_builtin (b := .append) (xs := #[.tmp 92, .tmp 95]) rfl ?_); at_builtin; refine Kd.R_append_rows kF (w0 := w2) w2.heap.size rfl (.tmp 92) (.tmp 95) 22 44 (.agg #[.int .u8 0, .int .u8 0, .int .u8 0, .int .u8 0, .int .i64 0, .int .i64 0]) 24 rfl Try.underlying22 info44 rfl (by decide) (by decide) (.slice none 0 0) [] (L.take 0) _ _ _ (fun _ => True) (fun _ => False) rfl rfl ?aO ?aR (fun _ _ h => h) (fun _ h => h.elim) ?aF ?aB ?aS ?aL ?_; (case aR => exact F_take HR9.out (by omega)); (case aB => exact HL.out.2.2); (case aF => exact (fun _ _ => trivial)); (case aO => exact Kd.R_nil _ _ _ _ _); (case aS => exact HL.out.2.2.size); (case aL => first | (simp; done) | (simp; omega)); intro v3 w3 ho hb hg hat; rw [List.nil_append] at ho; have H3 := Aside0.mk (And.intro ho (And.intro hb (And.intro hg hat))); clear ho hb hg hat)
              clear f0 f1 f2 f3 f4 f5
              obtain ⟨ad3, e3, f0, f1, f2, f3, f4, f5⟩ := at_Fn (Kd.C_below H2.out.2.2.1 H3.out.2.1) i hlt
              cases e3
              obtain ⟨f, hf⟩ : ∃ z, z = rdF fs i := ⟨_, rfl⟩
              rw [← hf] at f0 f1 f2 f3 f4 f5
              have HFE := Aside0.mk hf; clear hf
              obtain ⟨x0, x1, x2, x3, x4, x5⟩ := f
              dsimp only at f0 f1 f2 f3 f4 f5
              have htl : (L.take 0).length = 0 := by rw [List.length_take, HLL.out]; omega
              have HTL := Aside0.mk htl; clear htl
              go_upto_region 21 with ((with_reducible refine gate_builtin (b := .append) (xs := #[.tmp 97, .tmp 102]) rfl ?_); at_builtin; refine Kd.R_append kF (w0 := w2) w2.heap.size rfl (.tmp 97) (.tmp 102) 22 44 (.agg #[.int .u8 0, .int .u8 0, .int .u8 0, .int .u8 0, .int .i64 0, .int .i64 0]) 24 rfl Try.underlying22 info44 rfl (by decide) (by decide) v3 (L.take 0) ⟨x0, x1, x2, x3, x4, x5⟩ (fcs ⟨x0, x1, x2, x3, x4, x5⟩) (fun _ => True) (fun _ => False) rfl rfl ?aP (fun _ hk => hk.elim) ?aF ?aO ?aB ?aS ?aL ?_; (case aP => exact rfl); (case aB => exact H3.out.2.1); (case aF => exact (fun _ _ => trivial)); (case aO => exact H3.out.1); (case aS => exact H3.out.2.1.size); (case aL => rw [HTL.out]; omega); intro v4 w4 ho hb hg hat; have H4 := Aside0.mk (And.intro ho (And.intro hb hg)); clear ho hb hg hat)
              clear f0 f1 f2 f3 f4 f5
              have hr4 : kF.R 44 w4 w2.heap.size (fun _ => True) (.slice A9 i c9) L := F_grown (w' := w3) HL.out.1 (grown_none H3.out.2.2.1) H4.out.2.2 (fun k hk => by
                rcases H3.out.2.2.2 with h | ⟨b, h, h1⟩
                · rw [h] at hk; cases hk
                · rw [h] at hk; cases hk; exact h1)
              have HD := Aside0.mk (show kF.C w4 A9 i (L.drop 0) by rw [List.drop_zero]; exact F_own hr4); clear hr4
              go_upto_region 14 with ((with_reducible refine gate_builtin (b := .append) (xs := #[.tmp 104, .tmp 107]) rfl ?_); at_builtin; refine Kd.R_append_rows kF (w0 := w2) w2.heap.size rfl (.tmp 104) (.tmp 107) 22 44 (.agg #[.int .u8 0, .int .u8 0, .int .u8 0, .int .u8 0, .int .i64 0, .int .i64 0]) 24 rfl Try.underlying22 info44 rfl (by decide) (by decide) v4 (L.take 0 ++ [⟨x0, x1, x2, x3, x4, x5⟩]) (L.drop 0) _ _ _ (fun _ => True) (fun _ => False) rfl rfl ?aO ?aR (fun _ _ h => h) (fun _ h => h.elim) ?aF ?aB ?aS ?aL ?_; (case aR => exact HD.out); (case aB => exact H4.out.2.1); (case aF => exact (fun _ _ => trivial)); (case aO => exact H4.out.1); (case aS => exact H4.out.2.1.size); (case aL => rw [List.length_append, HTL.out]; first | (simp; done) | (simp; omega)); intro v5 w5 ho hb hg hat; have H5 := Aside0.mk (And.intro ho hb); clear ho hb hg hat)
              have HN : Aside0 (kF.R 44 w5 w2.heap.size (fun _ => True) v5 (insL 0 (rdF fs i) L) ∧ (insL 0 (rdF fs i) L).Perm (fs.take (i + 1)) ∧ Below w2.heap.size w2 w5) := ⟨by
                have := H5.out.1
                rw [← HFE.out]
                unfold insL
                simpa using this, ins_step (by rw [HC.out.2.1]; exact hlt) HL.out.2.1 0, H5.out.2⟩
              go_wp2_with fail
              go_roundw
              case rel => exact ⟨i + 1, _, by go_num, by omega, fun h => by omega, HN⟩
              case measure => simp [intOf]; omega
          · have hlti : ¬ (i : Int) < n := by omega
            have hin : i = n := by omega
            subst hin
            have hLl : L.Perm fs := by
              have := HL.out.2.1
              rwa [List.take_of_length_le (by rw [HC.out.2.1]; exact Nat.le_refl _)] at this
            have hLn : L.length = i := by rw [hLl.length_eq, HC.out.2.1]
            obtain ⟨A9, c9, hv9, hc9, hr9⟩ := Kd.R_reads HL.out.1
            rw [hLn] at hv9 hc9 hr9
            have hKL : KOK L := fun f hf => HC.out.1 f (hLl.mem_iff.1 hf)
            have hpl := plan_eq HC.out.1 hLl HEQ.out l least p
            have HPL := Aside0.mk (And.intro hLl (And.intro hKL (And.intro hLn hpl)))
            have hw := And.intro (below_step H2.out.1 HL.out.2.2) (And.intro (H2.out.2.1.below HL.out.2.2) (And.intro (Kd.C_below H2.out.2.2.1 HL.out.2.2) hr9))
            have HW := Aside0.mk hw
            clear hLl hLn hr9 hKL hpl hw HL hv0
            subst hv9
            obtain ⟨C, hC⟩ : ∃ z, z = planC fs l least p := ⟨_, rfl⟩
            obtain ⟨E, hE⟩ : ∃ z, z = planE fs l least p := ⟨_, rfl⟩
            have hl1 := lines_one wr A i c fs HC.out.2.1 HW.out.2.2.1 HC.out.1 l least p
            rw [← hC, ← hE] at hl1
            have HLI := Aside0.mk hl1; clear hl1
            have HCE := Aside0.mk (And.intro hC hE); clear hC hE
            have s0 := HW.out.2.1.at_ (i := 0) rfl
            have s1 := HW.out.2.1.at_ (i := 1) rfl
            have s2 := HW.out.2.1.at_ (i := 2) rfl
            go_upto_region 23 with ((with_reducible refine HLI.out.mono ?_); rintro e6 w6 ⟨v6, l6, rfl, hb6, hp6, hl6⟩; have H6 := Aside0.mk (And.intro hb6 (And.intro hp6 hl6)); clear hb6 hp6 hl6)
            clear s0 s1 s2
            have s0 := (HW.out.2.1.below H6.out.1).at_ (i := 0) rfl
            have s1 := (HW.out.2.1.below H6.out.1).at_ (i := 1) rfl
            have s2 := (HW.out.2.1.below H6.out.1).at_ (i := 2) rfl
            have hl2 := lines_one w6 A9 i c9 L HPL.out.2.2.1 (Kd.C_below HW.out.2.2.2 H6.out.1) HPL.out.2.1 l least p
            rw [HPL.out.2.2.2.1, HPL.out.2.2.2.2.1, HPL.out.2.2.2.2.2, ← HCE.out.1, ← HCE.out.2] at hl2
            have HLI2 := Aside0.mk hl2; clear hl2 HLI
            go_upto_region 24 with ((with_reducible refine HLI2.out.mono ?_); rintro e7 w7 ⟨v7, l7, rfl, hb7, hp7, hl7⟩; have H7 := Aside0.mk (And.intro hb7 (And.intro hp7 hl7)); clear hb7 hp7 hl7)
            clear s0 s1 s2 HLI2
            obtain ⟨B6, B7, cap6, cap7, hv6, hv7, hcap6, hcap7, hget⟩ := lines_pair HC.out.1 HPL.out.1 HEQ.out (by rw [HC.out.2.1]; exact (H6.out.2.1.below H7.out.1)) (by rw [HPL.out.2.2.1]; exact H7.out.2.1) H6.out.2.2 H7.out.2.2
            subst hv6
            subst hv7
            have HB7 := Aside0.mk (below_step HW.out.1 (below_step H6.out.1 H7.out.1))
            have HG := Aside0.mk hget; clear hget
            obtain ⟨M, hM⟩ : ∃ z, z = l6.length := ⟨_, rfl⟩
            have hMb : M ≤ 128 := by
              rw [hM]
              have h1 := congrArg List.length H6.out.2.2
              rw [List.length_map] at h1
              have h2 := planL_len fs l least p
              omega
            rw [← hM] at HG hcap6 hcap7 ⊢
            clear hM
            go_wp2_with fail
            go_loopw [19] (fun v19 wr => ∃ j : Nat, v19 = .int .i64 j ∧ j ≤ M ∧ ∃ q, wr = w7.drewN q) (fun v19 _ => M - (intOf v19).toNat)
            case atStart => exact ⟨0, rfl, by omega, 0, rfl⟩
            case round =>
              obtain ⟨j, rfl, hj, q3, rfl⟩ := hrel
              by_cases hjt : j < M
              · have hjti : (j : Int) < M := by omega
                obtain ⟨a6, a7, g6, g7, k0, k1, k2, k3, ce, co, d, c6, c7, e1, e2, c0, c1, c2, c3, c4, c5, c8, d0, d1, d2, d3, d4, d5, d8⟩ := HG.out j hjt
                subst e1
                subst e2
                have ke : ∀ W, (Op.equalIn 10000 34 (.agg #[.int .u8 k0, .int .u8 k1, .int .u8 k2, .int .u8 k3]) (.agg #[.int .u8 k0, .int .u8 k1, .int .u8 k2, .int .u8 k3])).run Try.prog W = .ok true W := fun W => by rw [kind_eql, decide_eq_true ⟨rfl, rfl, rfl, rfl⟩]
                go_upto_region 29 with fail
                go_quiet (fail)
                go_wp2_with fail
                go_roundw
                case rel => exact ⟨j + 1, by go_num, by omega, _, rfl⟩
                case measure => simp [intOf]; omega
              · have hjti : ¬ (j : Int) < M := by omega
                go_wp2_with ((with_reducible refine (HAL.out _).mono ?_); rintro e8 w8 ⟨rfl, hb8⟩; have HB8 := Aside0.mk (below_step HB7.out (below_step (bdN _ _) hb8)); clear hb8)
                go_ret
                exact ⟨rfl, HB8.out⟩
  · have hd : decide ((n : Int) ≤ 140) = false := decide_eq_false h140
    rw [hd] at HFW
    go_enter Try.func5, Try.ntmps5
    go_wp2_with (first | ((with_reducible refine (HFW.out _).mono ?_); rintro e5 w5 ⟨rfl, rfl⟩) | ((with_reducible refine (HAL.out _).mono ?_); rintro e6 w6 ⟨rfl, hb6⟩; have HB6 := Aside0.mk (below_step H1.out.1 hb6); clear hb6))
    go_ret
    exact ⟨rfl, HB6.out⟩
end Go.Proofs.Ythkfahkkcjagdaa
