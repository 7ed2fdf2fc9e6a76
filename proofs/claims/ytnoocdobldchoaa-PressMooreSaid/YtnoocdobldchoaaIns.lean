/- A number put into an order; small words for the printed contracts' laws. -/
import Derived.Test.YtnoocdobldchoaaJo2
namespace Go.Proofs.Ytnoocdobldchoaa
open Go.RowKit Go.Proofs.YtnoocdobldchoaaW.PrintWords Go.Proofs.YtnoocdobldchoaaW.PrintMore Go.Proofs.YtnoocdobldchoaaW.PrintLast

theorem w64 {n : Int} (h : -9223372036854775808 ≤ n ∧ n ≤ 9223372036854775807) : wrap64 n = n := by rw [← i64_w]; exact IntWalk.i64_in _ h
theorem rd_mem {o : List Int} {i : Nat} (h : i < o.length) : rd o (i : Int) ∈ o := by
  unfold rd
  rw [Int.toNat_natCast, List.getD_eq_getElem?_getD, List.getElem?_eq_getElem h]
  exact List.getElem_mem _
/-- x put ahead of the first that it stands ahead of. -/
def insF (cf : Int → Int → Int) (x : Int) : List Int → List Int
  | [] => [x]
  | y :: l => if cf x y < 0 then x :: y :: l else y :: insF cf x l
theorem insF_perm (cf : Int → Int → Int) (x : Int) : ∀ l, (insF cf x l).Perm (x :: l)
  | [] => List.Perm.refl _
  | y :: l => by
    unfold insF
    split
    · exact List.Perm.refl _
    · exact ((insF_perm cf x l).cons y).trans (List.Perm.swap x y l)
theorem insF_ahd {cf : Int → Int → Int} (hL : CmpLaw cf) (x : Int) : ∀ l : List Int, l.Pairwise (ahd cf) → (∀ y ∈ l, y < x) → (insF cf x l).Pairwise (ahd cf)
  | [], _, _ => List.pairwise_singleton _ _
  | y :: l, hp, hx => by
    obtain ⟨h1, h2⟩ := List.pairwise_cons.1 hp
    unfold insF
    split
    · rename_i hc
      refine List.pairwise_cons.2 ⟨fun z hz => ?_, hp⟩
      rcases List.mem_cons.1 hz with rfl | hz
      · exact .inl hc
      · exact hL.tr (.inl hc) (h1 z hz)
    · rename_i hc
      refine List.pairwise_cons.2 ⟨fun z hz => ?_, insF_ahd hL x l h2 (fun z hz => hx z (List.mem_cons_of_mem _ hz))⟩
      rcases List.mem_cons.1 ((insF_perm cf x l).mem_iff.1 hz) with rfl | hz
      · have a := hL.anti y z
        have b := hx y List.mem_cons_self
        unfold ahd
        omega
      · exact h1 z hz
end Go.Proofs.Ytnoocdobldchoaa
