/- What both packings answer, in one form. -/
import Derived.Test.YtnoocdobldchoaaPkBase
import Derived.Test.YtnoocdobldchoaaPkRPack
import Derived.Test.YtnoocdobldchoaaPkT3
namespace Go.Proofs.Ytnoocdobldchoaa
open Go.RowKit Go.Proofs.YtnoocdobldchoaaW.PrintWords Go.Proofs.YtnoocdobldchoaaW.PrintMore Go.Proofs.YtnoocdobldchoaaW.PrintLast

/-- The number of boxes, the packing and its length: the least number with a packing and the first such packing; nothing where the arguments are refused. -/
def Best (ms : List Int) (most each : Int) (m : Int) (n2 : Nat) (l : List Int) : Prop :=
  (thingsE ms most each = 0 → ∃ n : Nat, m = n ∧ n ≤ ms.length ∧ n2 = ms.length ∧ boundF ms most ≤ n ∧ Way most each n ms 0 zf l ∧ (∀ l', Free most each n ms zf l' → LexLe l l') ∧ ∀ k : Nat, k < n → ∀ l', ¬ Free most each k ms zf l') ∧
  (thingsE ms most each ≠ 0 → m = 0 ∧ n2 = 0 ∧ l = [])
theorem Best.one {ms : List Int} {most each m m' : Int} {n n' : Nat} {l l' : List Int} (h : Best ms most each m n l) (k : Best ms most each m' n' l') : m = m' ∧ n = n' ∧ l = l' := by
  by_cases e : thingsE ms most each = 0
  · obtain ⟨a, rfl, _, rfl, _, h2, h3, h4⟩ := h.1 e
    obtain ⟨b, rfl, _, rfl, _, k2, k3, k4⟩ := k.1 e
    have hab : a = b := by
      rcases Nat.lt_trichotomy a b with hlt | he | hgt
      · exact absurd h2.free (k4 a hlt _)
      · exact he
      · exact absurd k2.free (h4 b hgt _)
    subst hab
    exact ⟨rfl, rfl, (h3 _ k2.free).antisymm (by rw [h2.free.length, k2.free.length]) (k3 _ h2.free)⟩
  · obtain ⟨rfl, rfl, rfl⟩ := h.2 e
    obtain ⟨rfl, rfl, rfl⟩ := k.2 e
    exact ⟨rfl, rfl, rfl⟩
theorem Best.length {ms : List Int} {most each m : Int} {n : Nat} {l : List Int} (h : Best ms most each m n l) : l.length = n := by
  by_cases e : thingsE ms most each = 0
  · obtain ⟨a, rfl, _, rfl, _, h2, _⟩ := h.1 e
    exact h2.free.length
  · obtain ⟨rfl, rfl, rfl⟩ := h.2 e
    rfl
def BestPost (ms : List Int) (most each : Int) (w : World) (e : Ending) (w' : World) : Prop :=
  ∃ (A : Option Addr) (n : Nat) (m : Int) (l : List Int), e = .returned (.tuple #[.slice A n n, .int .i64 m, .int .i64 (thingsE ms most each)]) ∧ Below w.heap.size w w' ∧ (Kd.int .i64).C w' A n l ∧ Best ms most each m n l
theorem nil_C (w : World) : (Kd.int .i64).C w none 0 [] := ⟨rfl, by decide, fun h => absurd h (by decide)⟩
theorem pack_best (w : World) (A : Option Addr) (c : Nat) (ms : List Int) (most each : Int) (h : (Kd.int .i64).C w A ms.length ms) :
    Calls Try.prog 17 #[.slice A ms.length c, .int .i64 most, .int .i64 each] w (BestPost ms most each w) := by
  refine (pack_any w A c ms most each h pack_hex).mono ?_
  rintro e w' ⟨h1, h2⟩
  by_cases he : thingsE ms most each = 0
  · rw [if_pos he] at h2
    obtain ⟨g, n, l, h3, h4, h5, h6, h7, h8⟩ := h2
    obtain ⟨hms, hm, hea, hle⟩ := MOK.of_E he
    have d := dfs12 (most := most) (each := each) hms.1 hea.1
    obtain ⟨l0, hl0⟩ := own_ways he
    have hmin : ∀ k : Nat, k < n → ∀ l', ¬ Free most each k ms zf l' := fun k hk l' hf =>
      (d k).2.1 (h4 k (boundF_le hm.1 hf hms.pos) hk) ⟨l', hf⟩
    have hn : n ≤ ms.length := by
      rcases Nat.lt_or_ge ms.length n with h | h
      · exact absurd hl0 (hmin _ h _)
      · exact h
    refine ⟨_, _, _, l, ?_, h1, h8 ▸ h7.ints_C (by rw [h8]; have := hms.1; omega), fun _ => ⟨n, rfl, hn, rfl, h3, ((d n).1 l h5).1, ((d n).1 l h5).2, hmin⟩, fun h => absurd he h⟩
    rw [he]; exact h6
  · rw [if_neg he] at h2
    exact ⟨none, 0, 0, [], h2, h1, nil_C _, fun h => absurd h he, fun _ => ⟨rfl, rfl, rfl⟩⟩
theorem rpack_best (w : World) (A : Option Addr) (c : Nat) (ms : List Int) (most each : Int) (h : (Kd.int .i64).C w A ms.length ms) :
    Calls Try.prog 18 #[.slice A ms.length c, .int .i64 most, .int .i64 each] w (BestPost ms most each w) := by
  refine (rpack_any w A c ms most each h rpack_hex).mono ?_
  rintro e w' ⟨h1, h2⟩
  by_cases he : thingsE ms most each = 0
  · rw [if_pos he] at h2
    obtain ⟨g, n, l, h3, h4, h5, h6, h7, h8⟩ := h2
    obtain ⟨hms, hm, hea, hle⟩ := MOK.of_E he
    have d := assignF_spec (ms := ms) (most := most) (each := each) hea.1 (by omega)
    have hw := (d n).1 l h5
    refine ⟨_, _, _, l, ?_, h1, h8, fun _ => ⟨n, rfl, h3, rfl, boundF_le hm.1 hw.1.free hms.pos, hw.1, hw.2, fun k hk l' hf => (d k).2.1 (h4 k hk) ⟨l', hf⟩⟩, fun h => absurd he h⟩
    rw [he]; exact h6
  · rw [if_neg he] at h2
    exact ⟨none, 0, 0, [], h2, h1, nil_C _, fun h => absurd h he, fun _ => ⟨rfl, rfl, rfl⟩⟩
theorem same_yes_C (w : World) (A B : Option Addr) (n c d : Nat) (l : List Int) (h : (Kd.int .i64).C w A n l) (k : (Kd.int .i64).C w B n l) : Calls Try.prog 19 #[.slice A n c, .slice B n d] w fun e w' => e = .returned (.bool true) ∧ Below w.heap.size w w' := by
  have e : l.length = n := h.1
  subst e
  exact (same_any w A B c d l l h k).mono fun e w' ⟨h1, h2⟩ => ⟨by rw [h1]; simp, h2⟩
end Go.Proofs.Ytnoocdobldchoaa
