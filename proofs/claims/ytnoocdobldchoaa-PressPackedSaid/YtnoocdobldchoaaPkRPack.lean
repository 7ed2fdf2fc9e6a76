/- What the reference's packing answers. -/
import Derived.Test.YtnoocdobldchoaaPkAssign
namespace Go.Proofs.Ytnoocdobldchoaa
open Go.RowKit Go.Proofs.YtnoocdobldchoaaW.PrintWords Go.Proofs.YtnoocdobldchoaaW.PrintMore Go.Proofs.YtnoocdobldchoaaW.PrintLast

def RPackPost (ms : List Int) (most each : Int) (w : World) (e : Ending) (w' : World) : Prop :=
  Below w.heap.size w w' ∧
  if thingsE ms most each = 0 then ∃ (g n : Nat) (l : List Int), n ≤ ms.length ∧ (∀ k : Nat, k < n → assignF ms k most each = none) ∧ assignF ms n most each = some l ∧
    e = .returned (.tuple #[.slice (some ⟨g, 0, none⟩) ms.length ms.length, .int .i64 n, .int .i64 0]) ∧ l.length = ms.length ∧ (Kd.int .i64).C w' (some ⟨g, 0, none⟩) ms.length l
  else e = .returned (.tuple #[.slice none 0 0, .int .i64 0, .int .i64 (thingsE ms most each)])

set_option maxHeartbeats 4000000 in
theorem rpack_any (w : World) (A : Option Addr) (c : Nat) (ms : List Int) (most each : Int) (h : (Kd.int .i64).C w A ms.length ms)
    (hex : thingsE ms most each = 0 → ∃ n0 : Nat, n0 ≤ ms.length ∧ assignF ms n0 most each ≠ none) :
    Calls Try.prog 18 #[.slice A ms.length c, .int .i64 most, .int .i64 each] w (RPackPost ms most each w) := by
  have hbx := Aside0.mk (boxes_any w A c ms most each h)
  have HR := Aside0.mk h; clear h
  have HEX := Aside0.mk hex; clear hex
  obtain ⟨e0, he0⟩ : ∃ z, z = thingsE ms most each := ⟨_, rfl⟩
  rw [← he0] at hbx
  have HE := Aside0.mk he0; clear he0
  by_cases hz : e0 = 0
  · obtain ⟨hms, ⟨hm0, hm1⟩, hec, hle⟩ := MOK.of_E (HE.out.symm.trans hz)
    obtain ⟨n0, hn0, hn1⟩ := HEX.out (HE.out.symm.trans hz)
    subst hz
    have hml := hms.1
    have HMS := Aside0.mk hms; clear hms hle
    have HN1 := Aside0.mk hn1; clear hn1 HEX
    go_enter Try.func18, Try.ntmps18
    go_wp2_with ((with_reducible refine hbx.out.mono ?_); rintro e5 w5 ⟨rfl, rfl⟩)
    clear hbx
    go_loopw [10] (fun v wr => ∃ n : Nat, v = .int .i64 n ∧ n ≤ n0 ∧ Aside0 (Below w.heap.size w wr) ∧ Aside0 (∀ k : Nat, k < n → assignF ms k most each = none)) (fun v _ => n0 + 1 - (intOf v).toNat)
    case atStart => exact ⟨0, rfl, by omega, ⟨Below.refl _ _⟩, ⟨fun k h => by omega⟩⟩
    case round =>
      obtain ⟨n, rfl, hnn, hb, hno⟩ := hrel
      have hC := Kd.C_below HR.out hb.out
      have hcall := Aside0.mk (assign_any wr A c ms n most each hC HMS.out (by omega) hm0 hm1 hec)
      clear hC
      go_upto_region 7 with fail
      go_cut [11, 12] from 20 to 36 (fun a b w5 => ∃ g ok, a = .slice (some ⟨g, 0, none⟩) ms.length ms.length ∧ b = .bool ok ∧ Aside0 (Below wr.heap.size wr w5 ∧ match assignF ms n most each with | some l => ok = true ∧ l.length = ms.length ∧ (Kd.int .i64).C w5 (some ⟨g, 0, none⟩) ms.length l | none => ok = false))
      case first =>
        go_wp2_with ((with_reducible refine hcall.out.mono ?_); rintro e5 w5 ⟨hb5, g5, ok5, rfl, hp5⟩; have HP5 := Aside0.mk (And.intro hb5 hp5); clear hb5 hp5)
        go_meet
        case rel => exact ⟨g5, ok5, rfl, rfl, HP5⟩
      case rest =>
      obtain ⟨g5, ok5, rfl, rfl, ⟨hb5, hp5⟩⟩ := hcut
      have hb6 := hb.out.trans (hb5.mono hb.out.size)
      have HB6 := Aside0.mk hb6; clear hb6 hb5 hb hcall
      cases hd5 : assignF ms n most each with
      | some l5 =>
        simp only [hd5] at hp5
        obtain ⟨rfl, h5, h6⟩ := hp5
        have HD5 := Aside0.mk hd5; clear hd5
        have H56 := Aside0.mk (And.intro h5 h6); clear h5 h6
        go_wp2_with fail
        refine bodyPost_ret (v := .tuple #[.slice (some ⟨g5, 0, none⟩) ms.length ms.length, .int .i64 n, .int .i64 0]) (by simp [results, Try.results18, go_sem]) rfl ?_
        refine ⟨HB6.out, ?_⟩
        rw [if_pos HE.out.symm]
        exact ⟨g5, n, l5, by omega, hno.out, HD5.out, rfl, H56.out.1, H56.out.2⟩
      | none =>
        simp only [hd5] at hp5
        subst hp5
        have hlt : n < n0 := by
          rcases Nat.lt_or_ge n n0 with h1 | h1
          · exact h1
          · have : n = n0 := by omega
            subst this
            exact absurd hd5 HN1.out
        have HD5 := Aside0.mk hd5; clear hd5
        go_wp2_with fail
        go_roundw
        case rel =>
          refine ⟨n + 1, by go_num, by omega, HB6, ⟨fun k h2 => ?_⟩⟩
          by_cases hkn : k < n
          · exact hno.out k hkn
          · have : k = n := by omega
            subst this
            exact HD5.out
        case measure => simp [intOf]; omega
  · have hzb : (e0 != 0) = true := by simp [hz]
    go_enter Try.func18, Try.ntmps18
    go_wp2_with ((with_reducible refine hbx.out.mono ?_); rintro e5 w5 ⟨rfl, rfl⟩)
    refine bodyPost_ret (v := .tuple #[.slice none 0 0, .int .i64 0, .int .i64 e0]) (by simp [results, Try.results18, go_sem]) rfl ?_
    exact ⟨Below.refl _ _, by rw [← HE.out, if_neg hz]⟩
end Go.Proofs.Ytnoocdobldchoaa
