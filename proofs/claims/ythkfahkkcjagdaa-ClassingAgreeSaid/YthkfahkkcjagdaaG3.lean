/- The stable sort of fewer than twenty numbers. -/
import Derived.Test.YthkfahkkcjagdaaG2
namespace Go.Proofs.Ythkfahkkcjagdaa
open Go.RowKit Go.Proofs.YthkfahkkcjagdaaW.PrintWords Go.Proofs.YthkfahkkcjagdaaW.PrintMore Go.Proofs.YthkfahkkcjagdaaW.PrintLast

/-- What the stable sort of a list leaves. -/
def SortsTo (f : Nat) (cf : Int → Int → Int) (dom : Int → Prop) (k b g : Nat) (I : World → Prop) (xs : List Int) : Prop :=
  ∀ (w : World), (∀ x ∈ xs, dom x) → Blk w g (ints xs) 3 → I w → CmpC k b I cf dom g →
    Calls Try.prog f #[.slice (some ⟨g, 0, none⟩) xs.length xs.length, .func (.func k) #[] #[.pointer (some ⟨b, 0, none⟩)]] w
      fun e w' => e = .returned (.tuple #[]) ∧ Kp (fun i => i = g) w w' ∧ Blk w' g (ints (srt cf xs)) 3

theorem stable_few {k b g : Nat} {I : World → Prop} {cf : Int → Int → Int} {dom : Int → Prop} (hC : CmpC k b I cf dom g) (xs : List Int) (hx : ∀ x ∈ xs, dom x) (w : World) (hg : Blk w g (ints xs) 3) (hI : I w) (hn : xs.length < 20) :
    Calls Try.prog 125 #[.slice (some ⟨g, 0, none⟩) xs.length xs.length, .int .i64 xs.length, .func (.func k) #[] #[.pointer (some ⟨b, 0, none⟩)]] w
      fun e w' => e = .returned (.tuple #[]) ∧ Kp (fun i => i = g) w w' ∧ Blk w' g (ints (srt cf xs)) 3 := by
  have hs := isort_any hC xs hx w hg hI 0 xs.length (by omega) (by omega) xs.length xs.length (by omega) (by omega)
  rw [List.drop_zero, Nat.sub_zero, List.take_length, List.drop_length, List.take_zero, List.append_nil, List.nil_append] at hs
  rw [show ((0 : Nat) : Int) = 0 from rfl] at hs
  have HS := Aside0.mk hs; clear hs hC hx hg hI
  have hn' : (xs.length : Int) < 20 := by omega
  go_enter Try.func125, Try.ntmps125
  go_wp2_with fail
  refine wp_loop_rounds 1 ?_
  rw [rounds_succ]
  go_wp2_with ((with_reducible refine HS.out.mono ?_); rintro e5 w5 ⟨rfl, hk5, hb5⟩; have HK5 := Aside0.mk (And.intro hk5 hb5); clear hk5 hb5)
  refine wp_loop_rounds 1 ?_
  rw [rounds_succ]
  go_wp2_with fail
  go_end0
  exact ⟨rfl, HK5.out⟩
theorem sortsFew {k b g : Nat} {I : World → Prop} {cf : Int → Int → Int} {dom : Int → Prop} (xs : List Int) (hn : xs.length < 20) : SortsTo 99 cf dom k b g I xs := by
  intro w hx hg hI hC
  have HS := Aside0.mk (stable_few hC xs hx w hg hI hn)
  clear hC hx hg hI
  go_enter Try.func99, Try.ntmps99
  go_wp2_with ((with_reducible refine HS.out.mono ?_); rintro e5 w5 ⟨rfl, hk5, hb5⟩; have HK5 := Aside0.mk (And.intro hk5 hb5); clear hk5 hb5)
  go_end0
  exact ⟨rfl, HK5.out⟩

theorem srt_perm_mem (cf : Int → Int → Int) (l : List Int) : ∀ x, x ∈ srt cf l ↔ x ∈ l := by
  have key : ∀ (l acc : List Int) (x : Int), x ∈ l.foldl (fun acc x => insR cf x acc) acc ↔ x ∈ acc ∨ x ∈ l := by
    intro l
    induction l with
    | nil => intro acc x; simp
    | cons a l ih =>
      intro acc x
      rw [List.foldl_cons, ih, insR_mem, List.mem_cons]
      constructor
      · rintro ((h | h) | h)
        · exact .inr (.inl h)
        · exact .inl h
        · exact .inr (.inr h)
      · rintro (h | h | h)
        · exact .inl (.inr h)
        · exact .inl (.inl h)
        · exact .inr h
  intro x
  unfold srt srtR
  rw [List.mem_reverse, key]
  simp
theorem srt_length (cf : Int → Int → Int) (l : List Int) : (srt cf l).length = l.length := by
  have key : ∀ (l acc : List Int), (l.foldl (fun acc x => insR cf x acc) acc).length = acc.length + l.length := by
    intro l
    induction l with
    | nil => intro acc; simp
    | cons a l ih => intro acc; rw [List.foldl_cons, ih, insR_length]; simp; omega
  unfold srt srtR
  rw [List.length_reverse, key]; simp
theorem upto_mem (n : Nat) (x : Int) : x ∈ upto n ↔ 0 ≤ x ∧ x < n := by
  unfold upto
  rw [List.mem_map]
  constructor
  · rintro ⟨i, hi, rfl⟩
    have := List.mem_range.1 hi; omega
  · intro h
    exact ⟨x.toNat, List.mem_range.2 (by omega), by omega⟩

end Go.Proofs.Ythkfahkkcjagdaa
