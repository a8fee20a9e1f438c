/- Forks of ways, as plain lists. -/
import Derived.Test.YtccnfbjdpgmlhaaGreatDoorChBG
namespace Go.Proofs.YtccnfbjdpgmlhaaGreatDoor
open Go.RowKit
set_option linter.unusedVariables false
set_option linter.unusedSimpArgs false

theorem comm_lt (xs : List Nat) : ∀ (ys : List Nat) (k : Nat), k < comm xs ys → k < xs.length ∧ k < ys.length ∧ xs.getD k 0 = ys.getD k 0 := by
  induction xs with
  | nil => intro ys k h; cases ys <;> simp [comm] at h
  | cons x xs ih =>
    intro ys k h
    cases ys with
    | nil => simp [comm] at h
    | cons y ys =>
      have h2 : k < (if x = y then comm xs ys + 1 else 0) := h
      by_cases e : x = y
      · rw [if_pos e] at h2
        cases k with
        | zero => exact ⟨by simp, by simp, e⟩
        | succ k =>
          obtain ⟨h3, h4, h5⟩ := ih ys k (by omega)
          exact ⟨by simp; omega, by simp; omega, h5⟩
      · rw [if_neg e] at h2; omega
theorem comm_end (xs : List Nat) : ∀ ys : List Nat, comm xs ys < xs.length → comm xs ys < ys.length → xs.getD (comm xs ys) 0 ≠ ys.getD (comm xs ys) 0 := by
  induction xs with
  | nil => intro ys h; simp at h
  | cons x xs ih =>
    intro ys h1 h2
    cases ys with
    | nil => simp at h2
    | cons y ys =>
      by_cases e : x = y
      · have e2 : comm (x :: xs) (y :: ys) = comm xs ys + 1 := by show (if x = y then _ else _) = _; rw [if_pos e]
        rw [e2] at h1 h2 ⊢
        exact ih ys (by simpa using h1) (by simpa using h2)
      · have e2 : comm (x :: xs) (y :: ys) = 0 := by show (if x = y then _ else _) = _; rw [if_neg e]
        rw [e2]; exact e
theorem fork_way (P : List Page) (i j : Nat) : (forkP P i j).1 = (waysF P i).getD (comm (wayP P i) (wayP P j)) 0 := forkF_comm _ _ _
theorem ways_len {P : List Page} {i : Nat} (hI : Inv P i) : 1 ≤ (waysF P i).length ∧ (waysF P i).length ≤ 200 := by
  have h1 := up_length P hI.book.tree i hI.at_
  have h2 := hI.book.most
  have h3 := hI.at_
  simp [waysF, wayP]; omega
theorem ways_pos {P : List Page} {i : Nat} (hI : Inv P i) : 0 < (toI (waysF P i)).length := by rw [toI_length]; exact (ways_len hI).1
theorem ways_len2 {P : List Page} {i : Nat} (hI : Inv P i) : 1 ≤ (toI (waysF P i)).length ∧ (toI (waysF P i)).length ≤ 200 := by rw [toI_length]; exact ways_len hI
theorem ways_par {P : List Page} {i : Nat} (hI : Inv P i) (h0 : 0 < i) : 2 ≤ (waysF P i).length ∧ (waysF P i).getD ((waysF P i).length - 2) 0 = par P i := by
  have hs := wayP_step hI.book.tree h0 hI.at_
  have hl : (waysF P i).length = (wayP P (par P i)).length + 2 := by simp [waysF, hs]
  refine ⟨by omega, ?_⟩
  rw [hl]
  show (0 :: wayP P i).getD (wayP P (par P i)).length 0 = par P i
  rw [hs]
  have h9 := lastN_getD (wayP P (par P i)) 0
  rw [wayP_last hI.book.tree (hI.book.par_lt hI.at_)] at h9
  refine Eq.trans ?_ h9
  generalize wayP P (par P i) = wf
  cases wf with
  | nil => rfl
  | cons z zs =>
    show (z :: zs ++ [i]).getD zs.length 0 = (z :: zs).getD zs.length 0
    rw [List.getD_eq_getElem?_getD, List.getElem?_append_left (by simp), ← List.getD_eq_getElem?_getD]
theorem Fork_told (c : Nat) (v : Value) (P : List Page) (a base i j : Nat) (w : World) (h : ChestAt w base c v P a) (hO : Ok P a) (hi : i < P.length) (hj : j < P.length) :
    Calls Tryz.prog 11 #[.pointer (some ⟨c, 0, none⟩), .int .i64 i, .int .i64 j] w fun e w' => e = .returned (.tuple #[.int .i64 ((forkP P i j).1 : Nat), .int .i64 0]) ∧ Below w.heap.size w w' := by
  have h1 : (inP P.length (i : Int) && inP P.length (j : Int)) = true := by unfold inP; rw [decide_eq_true, decide_eq_true]; rfl; all_goals omega
  have e1 : ForkE P i j = 0 := by unfold ForkE; rw [if_pos h1]
  have e2 : ForkN P i j = ((forkP P i j).1 : Nat) := by unfold ForkN; rw [if_pos h1, Int.toNat_natCast, Int.toNat_natCast]
  refine (Fork_calls c v P a base i j w h hO).mono (fun e w' hh => ?_)
  rw [e1, e2] at hh
  exact hh
theorem Fork_out (c : Nat) (v : Value) (P : List Page) (a base i : Nat) (w : World) (h : ChestAt w base c v P a) (hO : Ok P a) :
    Calls Tryz.prog 11 #[.pointer (some ⟨c, 0, none⟩), .int .i64 i, .int .i64 P.length] w fun e w' => e = .returned (.tuple #[.int .i64 0, .int .i64 2]) ∧ Below w.heap.size w w' := by
  have h1 : ¬ (inP P.length (i : Int) && inP P.length (P.length : Int)) = true := by
    intro hh
    have := of_decide_eq_true (Bool.and_eq_true_iff.mp hh).2
    omega
  have e1 : ForkE P i P.length = 2 := by unfold ForkE; rw [if_neg h1]
  have e2 : ForkN P i P.length = 0 := by unfold ForkN; rw [if_neg h1]
  refine (Fork_calls c v P a base i P.length w h hO).mono (fun e w' hh => ?_)
  rw [e1, e2] at hh
  exact hh
theorem toI_getD (l : List Nat) (k : Nat) : (toI l).getD k 0 = (l.getD k 0 : Nat) := by
  unfold toI
  rw [List.getD_eq_getElem?_getD, List.getD_eq_getElem?_getD, List.getElem?_map]
  cases l[k]? <;> rfl
end Go.Proofs.YtccnfbjdpgmlhaaGreatDoor
