/- Moving along a way, as plain lists; Move told. -/
import Derived.Test.YtccnfbjdpgmlhaaGreatDoorChBF
namespace Go.Proofs.YtccnfbjdpgmlhaaGreatDoor
open Go.RowKit
set_option linter.unusedVariables false
set_option linter.unusedSimpArgs false

theorem lastN_app (xs ys : List Nat) : ∀ a, lastN (xs ++ ys) a = lastN ys (lastN xs a) := by
  induction xs with
  | nil => intro a; rfl
  | cons x xs ih => intro a; exact ih x
theorem lastN_getD (xs : List Nat) : ∀ a, (a :: xs).getD xs.length 0 = lastN xs a := by
  induction xs with
  | nil => intro a; rfl
  | cons x xs ih => intro a; exact ih x
theorem moves_chain {P : List Page} {a : Nat} {l : List Nat} {P' : List Page} {a' k : Nat} (hb : Book doF P) (h : Moves P a l P' a' k) :
    (∀ j, j < l.length → 0 < l.getD j 0 ∧ l.getD j 0 < P.length ∧ par P (l.getD j 0) = (a :: l).getD j 0) → P' = P ∧ a' = lastN l a ∧ k = l.length := by
  induction h with
  | nil => intro _; exact ⟨rfl, rfl, rfl⟩
  | @snoc l0 P1 a1 n1 p q h ih =>
    intro hc
    obtain ⟨rfl, rfl, rfl⟩ := ih (fun j hj => by
      have := hc j (by rw [List.length_append]; omega)
      rw [List.getD_eq_getElem?_getD, List.getElem?_append_left hj, ← List.getD_eq_getElem?_getD] at this
      refine ⟨this.1, this.2.1, this.2.2.trans ?_⟩
      cases j with
      | zero => rfl
      | succ j =>
        show (l0 ++ [p]).getD j 0 = l0.getD j 0
        rw [List.getD_eq_getElem?_getD, List.getElem?_append_left (by omega), ← List.getD_eq_getElem?_getD])
    have hl := hc l0.length (by rw [List.length_append, List.length_singleton]; omega)
    have e1 : (l0 ++ [p]).getD l0.length 0 = p := by rw [List.getD_eq_getElem?_getD, List.getElem?_append_right (Nat.le_refl _)]; simp
    have e2 : (a :: (l0 ++ [p])).getD l0.length 0 = lastN l0 a := by
      rw [← lastN_getD l0 a]
      cases hl0 : l0.length with
      | zero => rfl
      | succ m =>
        show (l0 ++ [p]).getD m 0 = l0.getD m 0
        rw [List.getD_eq_getElem?_getD, List.getElem?_append_left (by omega), ← List.getD_eq_getElem?_getD]
    rw [e1, e2] at hl
    have hag := doP_again hb hl.1 hl.2.1 q
    rw [hl.2.2] at hag
    rw [hag]
    refine ⟨rfl, (lastN_snoc l0 p a).symm, ?_⟩
    simp
theorem way_len {P : List Page} (hT : Tree P) : ∀ a, a < P.length → ∀ i, i ≤ (wayP P a).length → (wayP P ((0 :: wayP P a).getD i 0)).length = i := by
  intro a
  induction a using Nat.strongRecOn with
  | ind a ih =>
    intro ha i hi
    rcases Nat.eq_zero_or_pos a with h | h
    · subst h
      rw [wayP_zero] at hi ⊢
      obtain rfl : i = 0 := by simpa using hi
      rfl
    · have hlt : par P a < a := hT a h ha
      have hst := wayP_step hT h ha
      have hlen : (wayP P a).length = (wayP P (par P a)).length + 1 := by rw [hst]; simp
      rcases Nat.lt_or_ge i (wayP P a).length with h1 | h1
      · have := ih (par P a) hlt (by omega) i (by omega)
        have e : (0 :: wayP P a).getD i 0 = (0 :: wayP P (par P a)).getD i 0 := by
          rw [hst]
          cases i with
          | zero => rfl
          | succ i =>
            show (wayP P (par P a) ++ [a]).getD i 0 = (wayP P (par P a)).getD i 0
            rw [List.getD_eq_getElem?_getD, List.getElem?_append_left (by omega), ← List.getD_eq_getElem?_getD]
        rw [e]; exact this
      · obtain rfl : i = (wayP P a).length := by omega
        rw [lastN_getD, wayP_last hT ha]
theorem way_mem {P : List Page} {a i : Nat} (hi : i ≤ (wayP P a).length) : (0 :: wayP P a).getD i 0 = 0 ∨ (0 :: wayP P a).getD i 0 ∈ wayP P a := by
  cases i with
  | zero => exact .inl rfl
  | succ i => exact .inr (getD_mem (z := 0) (show i < (wayP P a).length by omega))
theorem rest_chain {P : List Page} (hT : Tree P) {a f : Nat} (ha : a < P.length) (hf : f < P.length) {r : List Nat} (hr : wayP P a = wayP P f ++ r) :
    (∀ j, j < r.length → 0 < r.getD j 0 ∧ r.getD j 0 < P.length ∧ par P (r.getD j 0) = (f :: r).getD j 0) ∧ lastN r f = a := by
  refine ⟨fun j hj => ?_, ?_⟩
  · have hm : r.getD j 0 ∈ wayP P a := by rw [hr]; exact List.mem_append_right _ (getD_mem hj)
    obtain ⟨h1, h2, _⟩ := wayP_in hT ha hm
    refine ⟨h1, h2, ?_⟩
    have hc := wayP_chain hT a ha ((wayP P f).length + j) (by rw [hr, List.length_append]; omega)
    have e1 : (wayP P a).getD ((wayP P f).length + j) 0 = r.getD j 0 := by
      rw [hr, List.getD_eq_getElem?_getD, List.getElem?_append_right (by omega), Nat.add_sub_cancel_left, ← List.getD_eq_getElem?_getD]
    rw [e1] at hc
    rw [hc]
    cases j with
    | zero =>
      show (0 :: wayP P a).getD (wayP P f).length 0 = f
      rw [hr]
      have h9 := lastN_getD (wayP P f) 0
      rw [wayP_last hT hf] at h9
      refine Eq.trans ?_ h9
      generalize wayP P f = wf
      cases wf with
      | nil => rfl
      | cons z zs =>
        show (z :: zs ++ r).getD zs.length 0 = (z :: zs).getD zs.length 0
        rw [List.getD_eq_getElem?_getD, List.getElem?_append_left (by simp), ← List.getD_eq_getElem?_getD]
    | succ j =>
      show (wayP P a).getD ((wayP P f).length + j) 0 = r.getD j 0
      rw [hr, List.getD_eq_getElem?_getD, List.getElem?_append_right (by omega), Nat.add_sub_cancel_left, ← List.getD_eq_getElem?_getD]
  · have := wayP_last hT ha
    rw [hr, lastN_app, wayP_last hT hf] at this
    exact this
def MovedR (c : Nat) (v : Value) (P : List Page) (a k base : Nat) (w : World) (e : Ending) (w' : World) : Prop :=
  e = .returned (.tuple #[.int .i64 (k : Nat), .int .i64 0]) ∧ ∃ v', ChestAt w' base c v' P a ∧ Left w base c v w' ∧ NewRow w v v'
theorem Move_down (n c : Nat) (v : Value) (P : List Page) (a f base : Nat) (w : World) (hE : Env n w) (hn : n ≤ base) (h : ChestAt w base c v P f) (hI : Inv P f) (hbs : base ≤ w.heap.size) (ha : a < P.length) (hf : f = 0 ∨ f ∈ wayP P a) :
    Calls Tryz.prog 12 #[.pointer (some ⟨c, 0, none⟩), .int .i64 a] w (MovedR c v P a ((wayP P a).length - (wayP P f).length) base w) := by
  obtain ⟨r, hr⟩ := wayP_split hI.book.tree a ha f hf
  have hin : inP P.length (a : Int) = true := by unfold inP; rw [decide_eq_true]; omega
  refine (Move_calls n c v P f base a w hE hn h hI hbs).mono (fun e w' hm => ?_)
  unfold MoveR at hm
  rw [if_pos hin, Int.toNat_natCast] at hm
  obtain ⟨P', a', k, v', he, hmv, hC, hL, hN, _, _⟩ := hm
  have hfk : (forkP P f a).2 = r := by
    show (forkF (wayP P f) (wayP P a) 0).2 = r
    rw [hr, forkF_app]
  rw [hfk] at hmv
  obtain ⟨hc, hl⟩ := rest_chain hI.book.tree ha hI.at_ hr
  obtain ⟨rfl, rfl, rfl⟩ := moves_chain hI.book hmv hc
  rw [hl] at hC
  refine ⟨?_, v', hC, hL, hN⟩
  rw [he, hr, List.length_append, Nat.add_sub_cancel_left]
theorem Move_up (n c : Nat) (v : Value) (P : List Page) (a f base : Nat) (w : World) (hE : Env n w) (hn : n ≤ base) (h : ChestAt w base c v P a) (hI : Inv P a) (hbs : base ≤ w.heap.size) (hfl : f < P.length) (hf : f = 0 ∨ f ∈ wayP P a) :
    Calls Tryz.prog 12 #[.pointer (some ⟨c, 0, none⟩), .int .i64 f] w (MovedR c v P a 0 base w) := by
  obtain ⟨r, hr⟩ := wayP_split hI.book.tree a hI.at_ f hf
  have hin : inP P.length (f : Int) = true := by unfold inP; rw [decide_eq_true]; omega
  refine (Move_calls n c v P a base f w hE hn h hI hbs).mono (fun e w' hm => ?_)
  unfold MoveR at hm
  rw [if_pos hin, Int.toNat_natCast] at hm
  obtain ⟨P', a', k, v', he, hmv, hC, hL, hN, _, _⟩ := hm
  have hfk : (forkP P a f).2 = [] := by
    show (forkF (wayP P a) (wayP P f) 0).2 = []
    rw [hr, forkF_app2]
  rw [hfk] at hmv
  obtain ⟨rfl, rfl, rfl⟩ := moves_chain hI.book hmv (fun j hj => absurd hj (by simp))
  exact ⟨he, v', hC, hL, hN⟩
theorem umod_runs (x : Int) (m : Nat) (h0 : 0 < m) (hm : m ≤ 1000) : ∃ (u : Int) (i : Nat), i < m ∧ (∀ W, (convert 3 46 (.int .i64 x)).run Tryz.prog W = .ok (.int .u64 u) W) ∧ (∀ W, (convert 3 46 (.int .i64 (m : Int))).run Tryz.prog W = .ok (.int .u64 (m : Int)) W) ∧
    wrap64 (u.tmod (m : Int)) = (i : Int) := by
  have k1 : Tryz.prog.intKind 46 = .u64 := by kernel_rfl
  have k2 : Tryz.prog.intKind 3 = .i64 := by kernel_rfl
  have hu1 : Tryz.prog.underlying 46 = some (.int (Tryz.prog.intKind 46)) := by rw [k1]; exact Tryz.underlying46
  have hu2 : Tryz.prog.underlying 3 = some (.int (Tryz.prog.intKind 3)) := by rw [k2]; exact Tryz.underlying3
  have hw : 0 ≤ IntKind.u64.wrap x := by simp [IntKind.wrap, IntKind.signed, IntKind.bits]; omega
  have hi0 : 0 ≤ (IntKind.u64.wrap x).tmod (m : Int) := Int.tmod_nonneg _ hw
  have hi1 : (IntKind.u64.wrap x).tmod (m : Int) < m := Int.tmod_lt_of_pos _ (by omega)
  refine ⟨IntKind.u64.wrap x, ((IntKind.u64.wrap x).tmod (m : Int)).toNat, by omega, fun W => ?_, fun W => ?_, ?_⟩
  · rw [run_convert_int (P := Tryz.prog) W 3 46 .i64 x (by rw [hu2]; rfl) hu1, k1]
  · rw [run_convert_int (P := Tryz.prog) W 3 46 .i64 m (by rw [hu2]; rfl) hu1, k1]
    have : IntKind.u64.wrap (m : Int) = m := by simp [IntKind.wrap, IntKind.signed, IntKind.bits]; omega
    rw [this]
  · rw [Int.toNat_of_nonneg hi0]
    generalize (IntKind.u64.wrap x).tmod (m : Int) = t at hi0 hi1
    unfold wrap64
    omega
end Go.Proofs.YtccnfbjdpgmlhaaGreatDoor
