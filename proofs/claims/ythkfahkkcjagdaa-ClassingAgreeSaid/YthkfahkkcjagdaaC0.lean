/- Two arrays of bytes compared by '=='. -/
import Derived.Test.YthkfahkkcjagdaaC1
import Derived.Laws.StructEq
namespace Go.Proofs.Ythkfahkkcjagdaa
open Go.RowKit Go.Proofs.YthkfahkkcjagdaaW.PrintWords Go.Proofs.YthkfahkkcjagdaaW.PrintMore Go.Proofs.YthkfahkkcjagdaaW.PrintLast

def u8v (x : Int) : Value := .int .u8 x
theorem all_range_eqI : ∀ (xs ys : List Int), xs.length = ys.length → ((List.range xs.length).all fun i => xs.getD i 0 == ys.getD i 0) = (xs == ys)
  | [], [], _ => rfl
  | x :: xs, y :: ys, h => by
    have ih := all_range_eqI xs ys (by simpa using h)
    rw [List.length_cons, List.range_succ_eq_map, List.all_cons, List.all_map]
    simp only [List.getD_cons_zero, Function.comp_def, List.getD_cons_succ, ih]
    simp [List.cons_beq_cons]
  | [], _ :: _, h => by simp at h
  | _ :: _, [], h => by simp at h
theorem run_equalIn_u8 {P : Program} (w : World) (d : Nat) (t e : TypeId) (n : Nat) (ht : P.underlying t = some (.array n e)) (he : P.underlying e = some (.int .u8)) (hsz : ∀ w, (sizeOf e).run P w = .ok 1 w)
    (xs ys : List Int) (hx : xs.length = n) (hy : ys.length = n) :
    (Op.equalIn (d + 2) t (.agg (xs.map u8v).toArray) (.agg (ys.map u8v).toArray)).run P w = .ok (xs == ys) w := by
  rw [← all_range_eqI xs ys (hx.trans hy.symm), hx, List.range_eq_range', Op.equalIn]
  simp only [Sem.run_bind, run_underlying ht, Result.andThen_ok, hsz, Std.Legacy.Range.forIn_eq_forIn_range', Std.Legacy.Range.size, Nat.sub_zero, Nat.add_sub_cancel, Nat.div_one]
  have hl : ∀ i ∈ List.range' 0 n 1, i < n := fun i hi => by simpa using (List.mem_range'_1.1 hi).2
  generalize List.range' 0 n 1 = l at hl ⊢
  induction l with
  | nil => simp
  | cons i l ih =>
    have hi : i < n := hl i (by simp)
    have px : (part e (xs.map u8v).toArray (i * 1)).run P w = .ok (u8v (xs.getD i 0)) w := by
      simp [part, isAgg, run_underlying he, List.getD, List.getElem?_eq_getElem (show i < xs.length by omega)]
    have py : (part e (ys.map u8v).toArray (i * 1)).run P w = .ok (u8v (ys.getD i 0)) w := by
      simp [part, isAgg, run_underlying he, List.getD, List.getElem?_eq_getElem (show i < ys.length by omega)]
    have pe : (Op.equalIn (d + 1) e (u8v (xs.getD i 0)) (u8v (ys.getD i 0))).run P w = .ok (xs.getD i 0 == ys.getD i 0) w := by
      rw [u8v, u8v, run_equalIn_int w d e .u8 .u8 _ _ he]
    simp only [List.forIn_cons, Sem.run_bind, px, py, pe, Result.andThen_ok, List.all_cons]
    cases hb : (xs.getD i 0 == ys.getD i 0)
    · simp
    · simp only [Bool.not_true, Bool.false_eq_true, if_false, Sem.run_pure, Result.andThen_ok, Bool.true_and]
      exact ih fun j hj => hl j (by simp [hj])
/-- Two kinds compared. -/
theorem kind_eql (w : World) (p0 p1 p2 p3 q0 q1 q2 q3 : Int) :
    (Op.equalIn 10000 34 (.agg #[.int .u8 p0, .int .u8 p1, .int .u8 p2, .int .u8 p3]) (.agg #[.int .u8 q0, .int .u8 q1, .int .u8 q2, .int .u8 q3])).run Try.prog w = .ok (decide (p0 = q0 ∧ p1 = q1 ∧ p2 = q2 ∧ p3 = q3)) w := by
  have h := run_equalIn_u8 (P := Try.prog) w 9998 34 5 4 Try.underlying34 Try.underlying5 Try.sizeOf5 [p0, p1, p2, p3] [q0, q1, q2, q3] rfl rfl
  have e : ([p0, p1, p2, p3] == [q0, q1, q2, q3]) = decide (p0 = q0 ∧ p1 = q1 ∧ p2 = q2 ∧ p3 = q3) := by
    rw [Bool.eq_iff_iff]; simp
  rw [e] at h
  exact h
theorem fl_mic (w : World) (a b c d e f : Int) : (Instr.field 44 (.agg #[.int .u8 a, .int .u8 b, .int .u8 c, .int .u8 d, .int .i64 e, .int .i64 f]) 1).run Try.prog w = .ok (.int .i64 e) w := by kernel_rfl
theorem fl_gr (w : World) (a b c d e f : Int) : (Instr.field 44 (.agg #[.int .u8 a, .int .u8 b, .int .u8 c, .int .u8 d, .int .i64 e, .int .i64 f]) 2).run Try.prog w = .ok (.int .i64 f) w := by kernel_rfl
theorem fl_kind (w : World) (a b c d e f : Int) : (Instr.field 44 (.agg #[.int .u8 a, .int .u8 b, .int .u8 c, .int .u8 d, .int .i64 e, .int .i64 f]) 0).run Try.prog w = .ok (.agg #[.int .u8 a, .int .u8 b, .int .u8 c, .int .u8 d]) w := by kernel_rfl
end Go.Proofs.Ythkfahkkcjagdaa
