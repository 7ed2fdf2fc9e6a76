/- The reference's search, from any thing on. -/
import Derived.Test.YtnoocdobldchoaaPkRFits
namespace Go.Proofs.Ytnoocdobldchoaa
open Go.RowKit Go.Proofs.YtnoocdobldchoaaW.PrintWords Go.Proofs.YtnoocdobldchoaaW.PrintMore Go.Proofs.YtnoocdobldchoaaW.PrintLast
/-- The search: whatever is still to be put. -/
theorem rfits_any {N bs ga gl gc : Nat} {A : Option Addr} {c : Nat} {ms : List Int} {bins each most free : Int} (hml : ms.length ≤ 12) (hmo : 0 ≤ most ∧ most ≤ 1073741824) (he : 1 ≤ each ∧ each ≤ 12) (hms : ∀ i, 0 ≤ rd ms i ∧ rd ms i ≤ 1073741824) (hfr : 0 ≤ free) :
    ∀ (n : Nat) (i used : Int) (w : World) (bx : List (Int × Int)) (av : List Int), n = ms.length - i.toNat → 0 ≤ i → i ≤ ms.length → SM N bs ga gl gc A c ms bins each most free w bx av → N ≤ w.heap.size → OKe most each bx → 0 ≤ used → used ≤ i →
    Calls Try.prog 68 #[.pointer (some ⟨bs,0,none⟩), .int .i64 i, .int .i64 used] w
    (RPost N bs ga gl gc A c ms bins each most free (ms.drop i.toNat) i used bx av w) := by
  intro n
  induction n with
  | zero =>
    intro i used w bx av hn h0 h1 hp hN hb hu0 hu1
    have e : i = ms.length := by omega
    subst e
    refine (hp.start used).mono ?_
    rintro e w' ⟨rfl, rfl⟩
    refine ⟨true, rfl, Kp.refl _ _, ?_⟩
    simp only [Int.toNat_natCast, List.drop_length, dfs]
    refine ⟨trivial, bx, ?_⟩
    rw [← hp.al]
    simpa using hp
  | succ n ih =>
    intro i used w bx av hn h0 h1 hp hN hb hu0 hu1
    rw [drop_rd ms i h0 (by omega)]
    exact rfits_round hp hN i used (by omega) h0 hu0 (by omega) hu1 hb (hms i) hmo he (by omega) hfr _ (fun used w bx av hp hN hb h0 h1 hu => ih (i + 1) used w bx av (by omega) (by omega) (by omega) hp hN hb h0 hu)
end Go.Proofs.Ytnoocdobldchoaa
