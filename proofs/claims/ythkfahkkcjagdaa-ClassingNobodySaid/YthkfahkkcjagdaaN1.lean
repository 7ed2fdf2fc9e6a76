/- A core test that is none, or a zero value: what its methods answer, and the law's walk. -/
import Derived.Test.YthkfahkkcjagdaaD2
import Derived.Deep.DeepCutAuto
namespace Go.Proofs.Ythkfahkkcjagdaa
open Go.RowKit Go.Proofs.YthkfahkkcjagdaaW.PrintWords Go.Proofs.YthkfahkkcjagdaaW.PrintMore Go.Proofs.YthkfahkkcjagdaaW.PrintLast

/-- No test: nil, or the type's zero value. -/
def NoT (w : World) (P : Option Addr) : Prop := P = none ∨ ∃ b : Nat, P = some ⟨b, 0, none⟩ ∧ Blk w b [.bool false, .int .i64 0, .int .i64 0, .slice none 0 0, .slice none 0 0] 80
theorem NoT.below {w w' : World} {P : Option Addr} (h : NoT w P) (b : Below w.heap.size w w') : NoT w' P := by
  rcases h with h | ⟨g, h, k⟩
  · exact .inl h
  · exact .inr ⟨g, h, k.below b⟩
theorem feed_no (w : World) (P : Option Addr) (h : NoT w P) (a b c d e : Int) :
    Calls Try.prog 50 #[.pointer P, .agg #[.int .i64 a, .int .i64 b, .int .i64 c, .int .i64 d, .int .i64 e]] w fun x w' => x = .returned (.int .i64 1) ∧ Below w.heap.size w w' := by
  have hb := below_alloc (Below.refl w.heap.size w) (.cells #[.int .i64 a, .int .i64 b, .int .i64 c, .int .i64 d, .int .i64 e] 55)
  have HB := Aside0.mk hb
  rcases h with rfl | ⟨g, rfl, k⟩
  · clear hb
    go_enter Try.func50, Try.ntmps50
    go_wp2_with fail
    go_ret
    exact ⟨rfl, HB.out⟩
  · have k2 := k.below hb
    have c0 := k2.at_ (i := 0) rfl
    clear hb k k2
    go_enter Try.func50, Try.ntmps50
    go_wp2_with fail
    go_ret
    exact ⟨rfl, HB.out⟩
theorem state_no (w : World) (P : Option Addr) (h : NoT w P) :
    Calls Try.prog 53 #[.pointer P] w fun x w' => x = .returned (.int .i64 2) ∧ w = w' := by
  rcases h with rfl | ⟨g, rfl, k⟩
  · go_enter Try.func53, Try.ntmps53
    go_wp2_with fail
    go_ret
    exact ⟨rfl, rfl⟩
  · have c0 := k.at_ (i := 0) rfl
    clear k
    go_enter Try.func53, Try.ntmps53
    go_wp2_with fail
    go_ret
    exact ⟨rfl, rfl⟩
theorem need_no (w : World) (P : Option Addr) (h : NoT w P) :
    Calls Try.prog 54 #[.pointer P] w fun x w' => x = .returned (.int .i64 0) ∧ w = w' := by
  have HS := Aside0.mk (state_no w P h); clear h
  go_enter Try.func54, Try.ntmps54
  go_wp2_with ((with_reducible refine HS.out.mono ?_); rintro e w' ⟨rfl, rfl⟩)
  go_ret
  exact ⟨rfl, rfl⟩
theorem result_no (w : World) (P : Option Addr) (h : NoT w P) :
    Calls Try.prog 51 #[.pointer P] w fun x w' => x = .returned (.tuple #[.agg #[.int .i64 0, .int .i64 0, .int .i64 0, .slice none 0 0], .int .i64 1]) ∧ Below w.heap.size w w' := by
  have hb := below_alloc (Below.refl w.heap.size w) (.cells #[.int .i64 0, .int .i64 0, .int .i64 0, .slice none 0 0] 83)
  have HB := Aside0.mk hb
  rcases h with rfl | ⟨g, rfl, k⟩
  · clear hb
    go_enter Try.func51, Try.ntmps51
    go_wp2_with fail
    exact bodyPost_ret (v := .tuple #[.agg #[.int .i64 0, .int .i64 0, .int .i64 0, .slice none 0 0], .int .i64 1]) (by simp [results, Try.results51, go_sem]) rfl ⟨rfl, HB.out⟩
  · have k2 := k.below hb
    have c0 := k2.at_ (i := 0) rfl
    clear hb k k2
    go_enter Try.func51, Try.ntmps51
    go_wp2_with fail
    exact bodyPost_ret (v := .tuple #[.agg #[.int .i64 0, .int .i64 0, .int .i64 0, .slice none 0 0], .int .i64 1]) (by simp [results, Try.results51, go_sem]) rfl ⟨rfl, HB.out⟩
end Go.Proofs.Ythkfahkkcjagdaa
