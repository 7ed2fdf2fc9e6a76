/- The insertion sort of the library, by whatever comparison that is a closure over one variable. -/
import Derived.Test.YthkfahkkcjagdaaG1
import Derived.StillTailTactics
namespace Go.Proofs.Ythkfahkkcjagdaa
open Go.RowKit Go.Proofs.YthkfahkkcjagdaaW.PrintWords Go.Proofs.YthkfahkkcjagdaaW.PrintMore Go.Proofs.YthkfahkkcjagdaaW.PrintLast

/-! ### The insertion sort of the library, by whatever comparison that is a closure over one variable. -/
/-- One number more into what is sorted, the last one first: it goes ahead of all that are greater. -/
def insR (cf : Int → Int → Int) (x : Int) : List Int → List Int
  | [] => [x]
  | y :: l => if cf x y < 0 then y :: insR cf x l else x :: y :: l
def srtR (cf : Int → Int → Int) (l : List Int) : List Int := l.foldl (fun acc x => insR cf x acc) []
/-- The stable sort of a list by insertion. -/
def srt (cf : Int → Int → Int) (l : List Int) : List Int := (srtR cf l).reverse
theorem insR_length (cf : Int → Int → Int) (x : Int) : ∀ l, (insR cf x l).length = l.length + 1
  | [] => rfl
  | y :: l => by
    unfold insR
    split
    · simp [insR_length cf x l]
    · simp
theorem srtR_snoc (cf : Int → Int → Int) (l : List Int) (x : Int) : srtR cf (l ++ [x]) = insR cf x (srtR cf l) := by
  unfold srtR; rw [List.foldl_append]; rfl
theorem insR_mem (cf : Int → Int → Int) (x : Int) : ∀ l y, y ∈ insR cf x l ↔ y = x ∨ y ∈ l
  | [], y => by simp [insR]
  | z :: l, y => by
    unfold insR
    split
    · rw [List.mem_cons, insR_mem cf x l y, List.mem_cons]
      constructor
      · rintro (h | h | h)
        · exact .inr (.inl h)
        · exact .inl h
        · exact .inr (.inr h)
      · rintro (h | h | h)
        · exact .inr (.inl h)
        · exact .inl h
        · exact .inr (.inr h)
    · rw [List.mem_cons]

/-- What a comparison closure over the variable at block b answers, wherever I holds. -/
structure CmpC (k b : Nat) (I : World → Prop) (cf : Int → Int → Int) (dom : Int → Prop) (g : Nat) : Prop where
  en : ∀ (args : Array Value) (W : World), (callFunc k args).run Try.prog W = .ok (.enter k args) W
  calls : ∀ (W : World) (x y : Int), I W → dom x → dom y → Calls Try.prog k #[.int .i64 x, .int .i64 y, .pointer (some ⟨b, 0, none⟩)] W fun e w' => e = .returned (.int .i64 (cf x y)) ∧ Below W.heap.size W w'
  keep : ∀ W W', I W → Kp (fun i => i = g) W W' → I W'

theorem two_at (P Q : List Int) (x y : Int) : (P ++ y :: x :: Q).getD P.length 0 = y ∧ (P ++ y :: x :: Q).getD (P.length + 1) 0 = x ∧ ((P ++ y :: x :: Q).set (P.length + 1) y).set P.length x = P ++ x :: y :: Q := by
  refine ⟨?_, ?_, ?_⟩
  · simp [List.getD_eq_getElem?_getD]
  · simp [List.getD_eq_getElem?_getD]
  · rw [List.set_append_right _ _ (by omega), List.set_append_right _ _ (by omega)]
    simp

/-- The data while the number x goes down. -/
def midD (xs : List Int) (lo i : Nat) (At Bt : List Int) (x : Int) : List Int := xs.take lo ++ (At.reverse ++ x :: (Bt.reverse ++ xs.drop (i + 1)))

set_option maxHeartbeats 8000000 in
set_option maxRecDepth 100000 in
theorem isort_any {k b g : Nat} {I : World → Prop} {cf : Int → Int → Int} {dom : Int → Prop} (hC : CmpC k b I cf dom g) (xs : List Int) (hx : ∀ x ∈ xs, dom x) (w : World) (hg : Blk w g (ints xs) 3) (hI : I w) (lo hi : Nat) (hlh : lo ≤ hi) (hh : hi ≤ xs.length) (n c : Nat) (hn : xs.length ≤ n) (hn2 : n ≤ 1000000) :
    Calls Try.prog 134 #[.slice (some ⟨g, 0, none⟩) n c, .int .i64 lo, .int .i64 hi, .func (.func k) #[] #[.pointer (some ⟨b, 0, none⟩)]] w
      fun e w' => e = .returned (.tuple #[]) ∧ Kp (fun i => i = g) w w' ∧ Blk w' g (ints (xs.take lo ++ (srt cf ((xs.drop lo).take (hi - lo)) ++ xs.drop hi))) 3 := by
  have hen := hC.en
  have HC := Aside0.mk hC; clear hC
  have HX := Aside0.mk hx; clear hx
  have HG := Aside0.mk hg; clear hg
  have HI := Aside0.mk hI; clear hI
  go_enter Try.func134, Try.ntmps134
  go_wp2_with fail
  go_loopw [8] (fun v wr => ∃ i : Nat, v = .int .i64 i ∧ lo + 1 ≤ i ∧ (i ≤ hi ∨ i = lo + 1) ∧ Aside0 (Kp (fun i => i = g) w wr) ∧ Aside0 (Blk wr g (ints (xs.take lo ++ (srt cf ((xs.drop lo).take (min i hi - lo)) ++ xs.drop (min i hi)))) 3)) (fun v _ => hi - (intOf v).toNat)
  case atStart =>
    refine ⟨lo + 1, by go_num, by omega, by omega, ⟨Kp.refl _ _⟩, ⟨?_⟩⟩
    have e : xs.take lo ++ (srt cf ((xs.drop lo).take (min (lo + 1) hi - lo)) ++ xs.drop (min (lo + 1) hi)) = xs := by
      rcases Nat.lt_or_ge lo hi with h | h
      · rw [show min (lo + 1) hi = lo + 1 by omega, show lo + 1 - lo = 1 by omega, List.drop_eq_getElem_cons (show lo < xs.length by omega), List.take_succ_cons, List.take_zero]
        show xs.take lo ++ ([xs[lo]] ++ xs.drop (lo + 1)) = xs
        rw [List.singleton_append, ← List.drop_eq_getElem_cons, List.take_append_drop]
      · rw [show min (lo + 1) hi = lo by omega, Nat.sub_self, List.take_zero]
        show xs.take lo ++ ([] ++ xs.drop lo) = xs
        rw [List.nil_append, List.take_append_drop]
    rw [e]; exact HG.out
  case round =>
    obtain ⟨i, rfl, hi1, hi2, hk, hb⟩ := hrel
    by_cases hlt : i < hi
    · have hil : i < xs.length := by omega
      obtain ⟨x, hxx⟩ : ∃ z, z = xs[i] := ⟨_, rfl⟩
      obtain ⟨R, hR⟩ : ∃ z, z = srtR cf ((xs.drop lo).take (i - lo)) := ⟨_, rfl⟩
      have hRl : R.length = i - lo := by
        rw [hR]
        have key : ∀ (l : List Int) (acc : List Int), (l.foldl (fun acc x => insR cf x acc) acc).length = acc.length + l.length := by
          intro l
          induction l with
          | nil => intro acc; simp
          | cons a l ih => intro acc; rw [List.foldl_cons, ih, insR_length]; simp; omega
        rw [srtR, key]; simp; omega
      have hRd : ∀ y ∈ R, dom y := by
        have key : ∀ (l : List Int) (acc : List Int), ∀ y ∈ l.foldl (fun acc x => insR cf x acc) acc, y ∈ acc ∨ y ∈ l := by
          intro l
          induction l with
          | nil => intro acc y hy; exact .inl hy
          | cons a l ih =>
            intro acc y hy
            rw [List.foldl_cons] at hy
            rcases ih _ y hy with h | h
            · rcases (insR_mem cf a acc y).1 h with rfl | h
              · exact .inr List.mem_cons_self
              · exact .inl h
            · exact .inr (List.mem_cons_of_mem _ h)
        intro y hy
        rw [hR] at hy
        rcases key _ _ y hy with h | h
        · simp at h
        · exact HX.out y (List.mem_of_mem_drop (List.mem_of_mem_take h))
      have hxd : dom x := HX.out x (by rw [hxx]; exact List.getElem_mem hil)
      have hb0 : Blk wr g (ints (midD xs lo i R [] x)) 3 := by
        have := hb.out
        rw [show min i hi = i by omega, srt, ← hR, List.drop_eq_getElem_cons hil, ← hxx] at this
        exact this
      have hseg : srt cf ((xs.drop lo).take (i + 1 - lo)) = (insR cf x R).reverse := by
        rw [show i + 1 - lo = (i - lo) + 1 by omega, List.take_succ_eq_append_getElem (by simp; omega), srt, srtR_snoc, ← hR, hxx]
        simp [show lo + (i - lo) = i by omega]
      have HSEG := Aside0.mk hseg; clear hseg hxx hR
      have HRD := Aside0.mk hRd; clear hRd
      have HXD := Aside0.mk hxd; clear hxd
      have HB0 := Aside0.mk hb0; clear hb0 hb
      go_wp2_with fail
      go_loopw [9] (fun v w2 => ∃ (J : Int) (At Bt : List Int), v = .int .i64 J ∧ Aside0 (J = (lo + At.length : Nat)) ∧ lo ≤ J ∧ J ≤ i ∧ At.length + Bt.length = i - lo ∧ Aside0 (Kp (fun i => i = g) w w2) ∧ Aside0 (Blk w2 g (ints (midD xs lo i At Bt x)) 3) ∧ Aside0 (∀ y ∈ At, dom y) ∧ Aside0 (insR cf x R = Bt ++ insR cf x At)) (fun v _ => (intOf v).toNat)
      case atStart => exact ⟨i, R, [], rfl, ⟨by omega⟩, by omega, by omega, by simp; omega, hk, HB0, HRD, ⟨rfl⟩⟩
      case round =>
        obtain ⟨J, At, Bt, rfl, hJ, hJ0, hJ1, hlen, hk2, hb2, hd2, hins⟩ := hrel
        cases At with
        | nil =>
          have hJl : ¬ (lo : Int) < J := by have := hJ.out; simp at this; omega
          have hd : decide ((lo : Int) < J) = false := by simpa using hJl
          have hfin : Aside0 (Blk wr g (ints (xs.take lo ++ (srt cf ((xs.drop lo).take (min (i + 1) hi - lo)) ++ xs.drop (min (i + 1) hi)))) 3) := by
            refine ⟨?_⟩
            have := hb2.out
            rw [show min (i + 1) hi = i + 1 by omega, HSEG.out, hins.out]
            unfold midD at this
            simpa [insR] using this
          clear hb2 hins
          go_wp2_with fail
          go_quiet (fail)
          go_wp2_with fail
          go_roundw
          case rel => exact ⟨i + 1, by go_num, by omega, by omega, ⟨hk2.out.drewN _⟩, ⟨hfin.out.drewN _⟩⟩
          case measure => simp [intOf]; omega
        | cons y A =>
          obtain ⟨P, hP⟩ : ∃ z, z = xs.take lo ++ A.reverse := ⟨_, rfl⟩
          obtain ⟨Q, hQ⟩ : ∃ z, z = Bt.reverse ++ xs.drop (i + 1) := ⟨_, rfl⟩
          have hPl : P.length = lo + A.length := by rw [hP]; simp; omega
          have hmid : midD xs lo i (y :: A) Bt x = P ++ y :: x :: Q := by unfold midD; rw [hP, hQ]; simp
          have hmid2 : midD xs lo i A (Bt ++ [y]) x = P ++ x :: y :: Q := by unfold midD; rw [hP, hQ]; simp
          have hb3 := hb2.out
          rw [hmid] at hb3
          have hJP : J = P.length + 1 := by have := hJ.out; simp at this; omega
          have t := two_at P Q x y
          have hPn : P.length + 1 < (P ++ y :: x :: Q).length := by simp
          have hJl : (lo : Int) < J := by omega
          have hlA : A.length + 1 + Bt.length = i - lo := by simpa using hlen
          have hJA : J - 1 = (lo + A.length : Nat) := by omega
          have c1 : wr.cell? ⟨g, J.toNat, none⟩ = some (.int .i64 x) := by
            rw [show J.toNat = P.length + 1 by omega]
            have := hb3.at_ (ints_get _ hPn)
            rwa [t.2.1] at this
          have c2 : wr.cell? ⟨g, (J - 1).toNat, none⟩ = some (.int .i64 y) := by
            rw [show (J - 1).toNat = P.length by omega]
            have := hb3.at_ (ints_get _ (show P.length < (P ++ y :: x :: Q).length by omega))
            rwa [t.1] at this
          have hJn : J < n := by have : xs.length ≤ n := hn; omega
          have hins2 : insR cf x (y :: A) = if cf x y < 0 then y :: insR cf x A else x :: y :: A := rfl
          have hyd : dom y := hd2.out y List.mem_cons_self
          have hAd : ∀ z ∈ A, dom z := fun z hz => hd2.out z (List.mem_cons_of_mem _ hz)
          have hIr : I wr := HC.out.keep _ _ HI.out hk2.out
          have T := Aside0.mk t; clear t
          have HP := Aside0.mk (And.intro hP (And.intro hQ (And.intro hPl (And.intro hmid2 (And.intro hJP (And.intro hJA (And.intro hlA hins2))))))); clear hP hQ hPl hmid hmid2 hJP hJA hlA hins2 hlen hJ
          have HAD := Aside0.mk hAd; clear hAd
          have HB3 := Aside0.mk hb3; clear hb3 hb2 hd2
          have HPN := Aside0.mk hPn; clear hPn
          have HCL := Aside0.mk (fun W hW => HC.out.calls W x y hW HXD.out hyd); clear hyd
          have hd : decide ((lo : Int) < J) = true := by simpa using hJl
          go_upto_region 4 with fail
          go_cut [34] from 18 to 52 (fun a w3 => a = .bool (decide (cf x y < 0)) ∧ Aside0 (Below wr.heap.size wr w3))
          case first =>
            have c2b : wr.cell? ⟨g, J.toNat - 1, none⟩ = some (.int .i64 y) := by
              rw [show J.toNat - 1 = (J - 1).toNat by omega]; exact c2
            have j0 : 0 ≤ J := by omega
            have j1 : 1 ≤ J := by omega
            have j2 : 0 ≤ J - 1 := by omega
            have j3 : J - 1 < n := by omega
            have j4 : IntKind.i64.wrap (J - 1) = J - 1 := IntWalk.i64_in _ (by omega)
            go_still_tail 14, (by kernel_rfl)
            clear j4
            change wpList _ _ _ _ _ wr.drew
            go_wp2_with ((with_reducible refine (HCL.out _ ?_).mono ?_); (first | exact HC.out.keep _ _ hIr ((Kp.refl _ _).drew) | exact hIr); rintro e5 w5 ⟨rfl, hb5⟩)
            go_meet
            case rel => exact ⟨rfl, ⟨below_step (below_drew (Below.refl _ _)) hb5⟩⟩
          case rest =>
          obtain ⟨rfl, ⟨hb4⟩⟩ := hcut
          have hb5 := HB3.out.below hb4
          have hk5 := hk2.out.then_below hb4
          obtain ⟨hP, hQ, hPl, hmid2, hJP, hJA, hlA, hins2⟩ := HP.out
          clear c1 c2 hIr HCL HB3 hb4 hk2 hd
          have HK5 := Aside0.mk hk5; clear hk5
          have HB5 := Aside0.mk hb5; clear hb5
          by_cases hlt0 : cf x y < 0
          · have c1 : wc.cell? ⟨g, J.toNat, none⟩ = some (.int .i64 x) := by
              rw [show J.toNat = P.length + 1 by omega]
              have := HB5.out.at_ (ints_get _ HPN.out)
              rwa [T.out.2.1] at this
            have c2 : wc.cell? ⟨g, J.toNat - 1, none⟩ = some (.int .i64 y) := by
              rw [show J.toNat - 1 = P.length by omega]
              have := HB5.out.at_ (ints_get _ (show P.length < (P ++ y :: x :: Q).length by have := HPN.out; omega))
              rwa [T.out.1] at this
            have c2b : wc.cell? ⟨g, (J - 1).toNat, none⟩ = some (.int .i64 y) := by
              rw [show (J - 1).toNat = J.toNat - 1 by omega]; exact c2
            have fr := HB5.out.free
            have j1 : 1 ≤ J := by omega
            have j3 : J - 1 < n := by omega
            have hnew : Aside0 (Blk ((wc.setCell ⟨g, J.toNat, none⟩ (.int .i64 y)).setCell ⟨g, J.toNat - 1, none⟩ (.int .i64 x)) g (ints (midD xs lo i A (Bt ++ [y]) x)) 3) := by
              refine ⟨?_⟩
              rw [hmid2, show J.toNat = P.length + 1 by omega, show P.length + 1 - 1 = P.length by omega, ← T.out.2.2, ← ints_set, ← ints_set]
              exact (HB5.out.set _ _).set _ _
            have hnew2 : Aside0 (Blk ((wc.setCell ⟨g, J.toNat - 1, none⟩ (.int .i64 x)).setCell ⟨g, J.toNat, none⟩ (.int .i64 y)) g (ints (midD xs lo i A (Bt ++ [y]) x)) 3) := by
              refine ⟨?_⟩
              rw [hmid2, show J.toNat = P.length + 1 by omega, show P.length + 1 - 1 = P.length by omega, ← T.out.2.2, List.set_comm _ _ (by omega), ← ints_set, ← ints_set]
              exact (HB5.out.set _ _).set _ _
            have hins3 : Aside0 (insR cf x R = (Bt ++ [y]) ++ insR cf x A) := ⟨by rw [hins.out, hins2, if_pos hlt0]; simp⟩
            have HP2 := Aside0.mk (And.intro hJA hlA)
            clear hP hQ hPl hmid2 hJP hJA hlA hins2 HP T HPN hins HB5
            go_upto_region 6 with fail
            go_region
            go_wp2_with fail
            go_roundw
            case rel => exact ⟨J - 1, A, Bt ++ [y], by go_num, ⟨HP2.out.1⟩, by have := HP2.out.1; omega, by omega, by have := HP2.out.2; simp; omega, ⟨((HK5.out.setCell (fun _ => rfl) _).setCell (fun _ => rfl) _).drew⟩, (by first | exact ⟨hnew.out.drew⟩ | exact ⟨hnew2.out.drew⟩), HAD, hins3⟩
            case measure => simp [intOf]; omega
          · have hd : decide (cf x y < 0) = false := by simpa using hlt0
            have hfin : Aside0 (Blk wc g (ints (xs.take lo ++ (srt cf ((xs.drop lo).take (min (i + 1) hi - lo)) ++ xs.drop (min (i + 1) hi)))) 3) := by
              refine ⟨?_⟩
              have := HB5.out
              rw [show min (i + 1) hi = i + 1 by omega, HSEG.out, hins.out, hins2, if_neg hlt0]
              rw [hP, hQ] at this
              simpa using this
            clear hP hQ hPl hmid2 hJP hJA hlA hins2 HP T HPN hins HB5 hlt0
            rw [hd]
            go_wp2_with fail
            go_roundw
            case rel => exact ⟨i + 1, by go_num, by omega, by omega, HK5, hfin⟩
            case measure => simp [intOf]; omega
    · go_wp2_with fail
      go_end0
      refine ⟨rfl, hk.out, ?_⟩
      have := hb.out
      rwa [show min i hi = hi by omega] at this
end Go.Proofs.Ythkfahkkcjagdaa
