/- What a change that is made leaves, as plain lists; rows of strings and numbers compared. -/
import Derived.Test.YtccnfbjdpgmlhaaGreatDoorChBA
import Derived.Test.YtccnfbjdpgmlhaaGreatDoorChAG
namespace Go.Proofs.YtccnfbjdpgmlhaaGreatDoor
open Go.RowKit Go.Proofs.YtccnfbjdpgmlhaaGreatDoorW.PrintWords Go.Proofs.YtccnfbjdpgmlhaaGreatDoorW.PrintLast Go.Proofs.YtccnfbjdpgmlhaaGreatDoorW.PrintMore
set_option linter.unusedVariables false
set_option linter.unusedSimpArgs false

/-- what a change that is made leaves. -/
structure Made (P : List Page) (a : Nat) (line r : ByteArray) (P' : List Page) (a' : Nat) : Prop where
  inv : Inv P' a'
  pos : 0 < a'
  par_ : par P' a' = a
  chg_ : chg P' a' = line
  grows : Grows P P'
  again : ∀ q, doP doF P' a line q = (P', a', r, 0)
  path : pathP P' a' = pathP P a ++ [line]
  old : stP P' a = stP P a
  child : a' ∈ childrenTo P' a P'.length
  more : P'.length ≤ P.length + 1 ∧ a' ≤ P.length ∧ (P' = P ∨ a' = P.length)
theorem made_of {P : List Page} {a : Nat} (hI : Inv P a) (line : ByteArray) (q : Nat) (h0 : (doP doF P a line 0).2.2.2 = 0) : Made P a line (doP doF P a line 0).2.2.1 (doP doF P a line q).1 (doP doF P a line q).2.1 := by
  have hrc := doP_rc doF P a line q
  have hI' := hI.do_ line q
  have hg := hI.grows line q
  rcases doP_cases doF doF_ne hI.book hI.at_ line q with ⟨_, h⟩ | ⟨_, k, hk, hk0, e, hc, hp⟩ | ⟨hz, hl, hno, e⟩
  · rw [hrc] at h; exact absurd h0 h
  · have hr : (doP doF P a line 0).2.2.1 = (doF (stP P a) line).2.1 := by rw [← hrc, e]
    rw [hr]
    rw [e] at hI' hg ⊢
    have hag := doP_again hI.book hk0 hk
    rw [hp, hc] at hag
    refine ⟨hI', hk0, hp, hc, hg, hag, ?_, rfl, isChild_mem hk0 hk hp, by show P.length ≤ P.length + 1 ∧ k ≤ P.length ∧ _; exact ⟨by omega, by omega, .inl rfl⟩⟩
    rw [pathP_step hI.book.tree hk0 hk, hp, hc]
  · have hr : (doP doF P a line 0).2.2.1 = (doF (stP P a) line).2.1 := by rw [← hrc, e]
    rw [hr]
    rw [e] at hI' hg ⊢
    have hpos : 0 < P.length := hI.book.some_
    have hlen : (P ++ [(⟨line, a, q, (doF (stP P a) line).1⟩ : Page)]).length = P.length + 1 := by simp
    have hk : P.length < (P ++ [(⟨line, a, q, (doF (stP P a) line).1⟩ : Page)]).length := by omega
    have hp : par (P ++ [(⟨line, a, q, (doF (stP P a) line).1⟩ : Page)]) P.length = a := by unfold par; rw [getD_last]
    have hc : chg (P ++ [(⟨line, a, q, (doF (stP P a) line).1⟩ : Page)]) P.length = line := by unfold chg; rw [getD_last]
    have hs : stP (P ++ [(⟨line, a, q, (doF (stP P a) line).1⟩ : Page)]) a = stP P a := stP_app hI.at_
    have hag := doP_again hI'.book hpos hk
    rw [hp, hc, hs] at hag
    refine ⟨hI', hpos, hp, hc, hg, hag, ?_, hs, isChild_mem hpos hk hp, ⟨by rw [hlen]; omega, Nat.le_refl _, .inr rfl⟩⟩
    rw [pathP_step hI'.book.tree hpos hk, hp, hc, pathP_app hI.book.tree hI'.book.tree hI.at_]
theorem fail_of {P : List Page} {a : Nat} (hI : Inv P a) (line : ByteArray) (q : Nat) (h0 : (doP doF P a line 0).2.2.2 ≠ 0) : (doP doF P a line q).1 = P ∧ (doP doF P a line q).2.1 = a ∧ (doP doF P a line 0).2.2.1 = ByteArray.empty := by
  have hrc := doP_rc doF P a line q
  rcases doP_cases doF doF_ne hI.book hI.at_ line q with ⟨e, _⟩ | ⟨_, k, hk, hk0, e, hc, hp⟩ | ⟨hz, hl, hno, e⟩
  · refine ⟨by rw [e], by rw [e], ?_⟩
    rw [← hrc, e]
  · rw [← hrc, e] at h0; exact absurd rfl h0
  · rw [← hrc, e] at h0; exact absurd rfl h0

theorem strs_cells {w : World} {base : Nat} {v : Value} {xs : List ByteArray} (h : Kd.R Kd.string 9 w base Tt v xs) (hx : 0 < xs.length) : ∃ g c, v = .slice (some ⟨g, 0, none⟩) xs.length c ∧ ∀ j, j < xs.length → w.cell? ⟨g, 0 + j, none⟩ = some (.string (xs.getD j ByteArray.empty)) := by
  obtain ⟨g, c, rfl, _, _, _⟩ := Kd.R_form h hx
  refine ⟨g, c, rfl, fun j hj => ?_⟩
  have h1 := (Kd.R_cell ByteArray.empty h (j : Int) (by omega) (by omega)).1
  rw [Int.toNat_natCast] at h1
  rw [Nat.zero_add]; exact h1
theorem ints_cells {w : World} {base : Nat} {v : Value} {xs : List Int} (h : Kd.R (Kd.int .i64) 3 w base Tt v xs) (hx : 0 < xs.length) : ∃ g c, v = .slice (some ⟨g, 0, none⟩) xs.length c ∧ ∀ j, j < xs.length → w.cell? ⟨g, 0 + j, none⟩ = some (.int .i64 (xs.getD j 0)) := by
  obtain ⟨g, c, rfl, _, _, _⟩ := Kd.R_form h hx
  refine ⟨g, c, rfl, fun j hj => ?_⟩
  have h1 := (Kd.R_cell 0 h (j : Int) (by omega) (by omega)).1
  rw [Int.toNat_natCast] at h1
  rw [Nat.zero_add]; exact h1
/-- Equal at rows of strings. -/
theorem eqStr_calls {base1 base2 : Nat} {v1 v2 : Value} {xs ys : List ByteArray} {w : World} (h1 : Kd.R Kd.string 9 w base1 Tt v1 xs) (h2 : Kd.R Kd.string 9 w base2 Tt v2 ys) (l1 : xs.length ≤ 1000) (l2 : ys.length ≤ 1000) :
    Calls Tryz.prog 25 #[v1, v2] w fun e w' => e = .returned (.bool (decide (xs = ys))) ∧ Below w.heap.size w w' := by
  rcases Nat.eq_zero_or_pos xs.length with hx | hx
  · obtain ⟨A1, c1, rfl⟩ := Kd.R_slice h1
    obtain ⟨A2, c2, rfl⟩ := Kd.R_slice h2
    rw [hx]
    refine (Tryz.slices_Equal_string_empty A1 A2 c1 ys.length c2 w (by omega)).mono (fun e w' h => ⟨?_, by rw [h.2]; exact Below.refl _ _⟩)
    have e1 : xs = [] := List.eq_nil_of_length_eq_zero hx
    have e2 : decide (ys.length = 0) = decide (xs = ys) := by rw [e1]; cases ys <;> simp
    rw [h.1, e2]
  · rcases Nat.eq_zero_or_pos ys.length with hy | hy
    · obtain ⟨A1, c1, rfl⟩ := Kd.R_slice h1
      obtain ⟨A2, c2, rfl⟩ := Kd.R_slice h2
      refine (Tryz.slices_Equal_string_lens A1 A2 xs.length c1 ys.length c2 w (by omega)).mono (fun e w' h => ⟨?_, by rw [h.2]; exact Below.refl _ _⟩)
      have e2 : decide (xs = ys) = false := by
        rw [decide_eq_false_iff_not]; intro h; rw [h] at hx; omega
      rw [h.1, e2]
    · obtain ⟨g1, c1, rfl, k1⟩ := strs_cells h1 hx
      obtain ⟨g2, c2, rfl, k2⟩ := strs_cells h2 hy
      refine (Tryz.slices_Equal_string g1 0 xs.length c1 g2 0 ys.length c2 xs ys w (Nat.le_refl _) (Nat.le_refl _) (by omega) (by omega) k1 k2).mono (fun e w' h => ⟨?_, by obtain ⟨q, hq⟩ := h.2; rw [hq]; exact pw_below_drewN (Below.refl _ _) _⟩)
      rw [h.1, List.take_length, List.take_length]
theorem hasInt_calls {base : Nat} {v : Value} {xs : List Int} {w : World} (h1 : Kd.R (Kd.int .i64) 3 w base Tt v xs) (l1 : xs.length ≤ 1000) (x : Int) :
    Calls Tryz.prog 26 #[v, .int .i64 x] w fun e w' => e = .returned (.bool (xs.contains x)) ∧ w = w' := by
  rcases Nat.eq_zero_or_pos xs.length with hx | hx
  · obtain ⟨A1, c1, rfl⟩ := Kd.R_slice h1
    rw [hx]
    refine (Tryz.slices_Contains_int_empty A1 c1 x w).mono (fun e w' h => ⟨?_, h.2.symm⟩)
    rw [List.eq_nil_of_length_eq_zero hx, h.1]; rfl
  · obtain ⟨g1, c1, rfl, k1⟩ := ints_cells h1 hx
    refine (Tryz.slices_Contains_int g1 0 xs.length c1 xs x w (Nat.le_refl _) (by omega) k1).mono (fun e w' h => ⟨?_, h.2.symm⟩)
    rw [h.1, List.take_length]
/-- a row of the call's own stays while the chest changes. -/
theorem row_kept {α : Type} {K : Kd α} {T : TypeId} {w0 w1 W : World} {c : Nat} {v x : Value} {xs : List α} (hR : Kd.R K T w1 w0.heap.size Tt x xs) (hk : KeepBut w1 W c v.ownBlock) (hc : c < w0.heap.size) (hv : ∀ k, v.ownBlock = some k → k < w0.heap.size) : Kd.R K T W w0.heap.size Tt x xs := by
  refine Kd.R_mono (Kd.R_move (Kd.R_bound hR) (fun k hk2 => ?_)) (fun _ _ => trivial)
  obtain ⟨_, h1, h2, _⟩ := hk2
  exact hk.2 k h2 (by omega) (fun e => by have := hv k e.symm; omega)
theorem ChestAt.own_lt {w : World} {base c : Nat} {v : Value} {P : List Page} {a : Nat} (h : ChestAt w base c v P a) : c < w.heap.size ∧ ∀ k, v.ownBlock = some k → k < w.heap.size := by
  obtain ⟨A, cap, hv, hlc, hC, h0, h1, f0, f1⟩ := h.cells
  refine ⟨World.block_lt_of_cell? w _ h0, fun k hk => ?_⟩
  obtain ⟨inner, ho⟩ := Kd.R_own h.2.2.1
  obtain ⟨cells, hcs⟩ := own_typed ho k hk
  exact blk_lt hcs
/-- Clone of a row of strings. -/
theorem cloneStr_calls {base : Nat} {v : Value} {xs : List ByteArray} {w : World} (h : Kd.R Kd.string 9 w base Tt v xs) (hl : xs.length ≤ 1000) :
    Calls Tryz.prog 27 #[v] w fun e w' => ∃ v', e = .returned v' ∧ Kd.R Kd.string 9 w' w.heap.size Tt v' xs ∧ Below w.heap.size w w' := by
  have fin : ∀ v' w', w'.ownsRow w.heap.size 9 1 v' xs.length (xs.map Value.string) → Kd.R Kd.string 9 w' w.heap.size Tt v' xs := fun v' w' ho => Kd.R_of_own ho (fun _ _ => trivial)
  rcases Nat.eq_zero_or_pos xs.length with hx | hx
  · have e0 : xs = [] := List.eq_nil_of_length_eq_zero hx
    obtain ⟨A1, c1, rfl⟩ := Kd.R_slice h
    rw [hx]
    subst e0
    cases A1 with
    | none => exact (Tryz.slices_Clone_string_nil 0 c1 w).mono (fun e w' h => ⟨_, h.1, Kd.R_nil _ _ _ _ _, by rw [h.2]; exact Below.refl _ _⟩)
    | some a => exact (Tryz.slices_Clone_string_zero a c1 w).mono (fun e w' ⟨v', he, ho, _, hb⟩ => ⟨v', he, fin v' w' ho, hb⟩)
  · obtain ⟨g1, c1, rfl, k1⟩ := strs_cells h hx
    refine (Tryz.slices_Clone_string g1 0 xs.length c1 xs w (Nat.le_refl _) (by omega) k1).mono (fun e w' ⟨v', he, ho, _, hb⟩ => ⟨v', he, ?_, hb⟩)
    rw [List.take_length] at ho
    exact fin v' w' ho
def textB (s : St) : ByteArray := ⟨(textF s).toArray⟩
theorem State_calls2 (n c : Nat) (v : Value) (P : List Page) (a base : Nat) (w : World) (hE : Env n w) (hnw : n ≤ w.heap.size) (h : ChestAt w base c v P a) (hI : Inv P a) :
    Calls Tryz.prog 19 #[.pointer (some ⟨c, 0, none⟩)] w fun e w' => e = .returned (.string (textB (stP P a))) ∧ Below w.heap.size w w' := State_calls n c v P a base w hE hnw h hI.ok hI.good
theorem up_pos {P : List Page} {a : Nat} (hI : Inv P a) (h0 : 0 < a) : 0 < (up P a).length := by
  rw [up_step P hI.book.tree a h0 hI.at_]; simp
theorem back_one {P : List Page} {a : Nat} (hI : Inv P a) (h0 : 0 < a) : BackE P a 1 = 0 ∧ BackA P a 1 = par P a := by
  have := up_pos hI h0
  unfold BackE BackA
  rw [if_neg (by omega), if_neg (by omega), if_neg (by omega), if_neg (by omega)]
  exact ⟨rfl, rfl⟩
theorem toI_has {l : List Nat} {k : Nat} (h : k ∈ l) : (toI l).contains (k : Int) = true := by
  rw [List.contains_iff_mem]; exact List.mem_map.mpr ⟨k, h, rfl⟩
theorem pathP_len {P : List Page} {a : Nat} (hI : Inv P a) : (pathP P a).length ≤ 200 := by
  have h1 := up_length P hI.book.tree a hI.at_
  have h2 := hI.book.most
  have h3 := hI.at_
  unfold pathP wayP
  rw [List.length_map, List.length_reverse]
  omega
theorem toI_children_len (P : List Page) (a : Nat) (h : P.length ≤ 200) : (toI (childrenTo P a P.length)).length ≤ 1000 := by
  have := childrenTo_length P a P.length
  rw [toI_length]; omega
end Go.Proofs.YtccnfbjdpgmlhaaGreatDoor
