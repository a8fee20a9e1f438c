/- Doing the path of a page in a new chest, as plain lists. -/
import Derived.Test.YtccnfbjdpgmlhaaGreatDoorChBB
namespace Go.Proofs.YtccnfbjdpgmlhaaGreatDoor
open Go.RowKit
set_option linter.unusedVariables false
set_option linter.unusedSimpArgs false

theorem doP_code {P : List Page} {a : Nat} {line : ByteArray} (q : Nat) (h0 : (doF (stP P a) line).2.2 = 0) (hl : P.length ≠ 200) : (doP doF P a line q).2.2.2 = 0 := by
  unfold doP
  rw [if_neg (by rw [h0]; simp)]
  by_cases h : 0 ≤ childP P a line
  · rw [if_pos h]
  · rw [if_neg h, if_neg hl]
theorem way_at {P : List Page} {a : Nat} (hI : Inv P a) : (0 :: wayP P a).getD (pathP P a).length 0 = a := by
  have hl : (pathP P a).length = (wayP P a).length := by simp [pathP]
  rw [hl]
  rcases Nat.eq_zero_or_pos a with h | h
  · subst h; rfl
  · rw [wayP_step hI.book.tree h hI.at_, List.length_append, List.length_singleton]
    show (wayP P (par P a) ++ [a]).getD (wayP P (par P a)).length 0 = a
    rw [List.getD_eq_getElem?_getD, List.getElem?_append_right (Nat.le_refl _)]
    simp
structure Replay (P : List Page) (a k : Nat) (Q : List Page) : Prop where
  inv : Inv Q k
  len : Q.length = k + 1
  pars : ∀ j, 0 < j → j ≤ k → par Q j = j - 1
  st : stP Q k = stP P ((0 :: wayP P a).getD k 0)
  path : pathP Q k = (pathP P a).take k
theorem Replay.start {P : List Page} {a : Nat} (hI : Inv P a) (b : Nat) : Replay P a 0 [page0 b] := by
  refine ⟨Inv.new b, rfl, fun j h0 h1 => by omega, ?_, ?_⟩
  · have e := hI.book.root.2.2
    show St.zero = stP P 0
    rw [e]
  · simp [pathP, wayP, up_zero]
theorem Replay.step {P : List Page} {a k : Nat} {Q : List Page} (hI : Inv P a) (h : Replay P a k Q) (hk : k < (pathP P a).length) (q : Nat) :
    (doP doF Q k ((pathP P a).getD k ByteArray.empty) 0).2.2.2 = 0 ∧ (doP doF Q k ((pathP P a).getD k ByteArray.empty) q).2.1 = k + 1 ∧ Replay P a (k + 1) (doP doF Q k ((pathP P a).getD k ByteArray.empty) q).1 := by
  have hl : (pathP P a).length = (wayP P a).length := by simp [pathP]
  have hkw : k < (wayP P a).length := by omega
  obtain ⟨p, hp⟩ : ∃ p, (wayP P a).getD k 0 = p := ⟨_, rfl⟩
  have hpm : p ∈ wayP P a := by rw [← hp]; exact getD_mem hkw
  obtain ⟨hp0, hpl, _⟩ := wayP_in hI.book.tree hI.at_ hpm
  have hch := wayP_chain hI.book.tree a hI.at_ k hkw
  rw [hp] at hch
  have hline : (pathP P a).getD k ByteArray.empty = chg P p := by
    unfold pathP
    rw [List.getD_eq_getElem?_getD, List.getElem?_map, List.getElem?_eq_getElem hkw]
    have : (wayP P a)[k] = p := by rw [← hp, List.getD_eq_getElem?_getD, List.getElem?_eq_getElem hkw]; rfl
    rw [this]; rfl
  rw [hline]
  obtain ⟨hne, hm1, hm0⟩ := hI.book.made p hp0 hpl
  have hst : stP Q k = stP P (par P p) := by rw [h.st, hch]
  have hup := up_length P hI.book.tree a hI.at_
  have hmost := hI.book.most
  have hat := hI.at_
  have hwl : (wayP P a).length = (up P a).length := by simp [wayP]
  have hc0 : (doP doF Q k (chg P p) 0).2.2.2 = 0 := doP_code 0 (by rw [hst]; exact hm0) (by rw [h.len]; omega)
  have hM := made_of h.inv (chg P p) q hc0
  generalize (doP doF Q k (chg P p) q).1 = Q' at hM ⊢
  generalize (doP doF Q k (chg P p) q).2.1 = a' at hM ⊢
  have ha' : a' = k + 1 := by
    rcases hM.more.2.2 with e | e
    · have h1 : a' < Q.length := by rw [← e]; exact hM.inv.at_
      have h2 : par Q a' = k := by rw [← e]; exact hM.par_
      have h3 := h.pars a' hM.pos (by rw [h.len] at h1; omega)
      have := hM.pos
      omega
    · rw [e, h.len]
  subst ha'
  have hlen : Q'.length = k + 1 + 1 := by
    have h1 := hM.inv.at_
    have h2 := hM.more.1
    rw [h.len] at h2
    omega
  refine ⟨hc0, rfl, hM.inv, hlen, fun j h0 h1 => ?_, ?_, ?_⟩
  · rcases Nat.lt_or_ge j (k + 1) with h2 | h2
    · have e : par Q' j = par Q j := by unfold par; rw [hM.grows.getD (by rw [h.len]; omega)]
      rw [e]; exact h.pars j h0 (by omega)
    · obtain rfl : j = k + 1 := by omega
      rw [hM.par_]; rfl
  · have e1 := (hM.inv.book.made (k + 1) hM.pos hM.inv.at_).2.1
    rw [hM.par_, hM.chg_, hM.old, hst, hm1] at e1
    rw [← e1]
    show stP P p = stP P ((wayP P a).getD k 0)
    rw [hp]
  · rw [hM.path, h.path, take_snoc _ ByteArray.empty k hk, hline]
theorem backP_all {P : List Page} {a : Nat} (hI : Inv P a) : backP P (up P a).length a = 0 := by
  suffices h : ∀ n a, (up P a).length = n → a < P.length → backP P n a = 0 from h _ a rfl hI.at_
  intro n
  induction n with
  | zero =>
    intro a h1 h2
    rcases Nat.eq_zero_or_pos a with h | h
    · exact h
    · rw [up_step P hI.book.tree a h h2] at h1; simp at h1
  | succ n ih =>
    intro a h1 h2
    rcases Nat.eq_zero_or_pos a with h | h
    · subst h; rw [up_zero] at h1; simp at h1
    · rw [up_step P hI.book.tree a h h2] at h1
      exact ih (par P a) (by simpa [par] using h1) (hI.book.par_lt h2)
theorem back_all {P : List Page} {a : Nat} (hI : Inv P a) : BackE P a ((pathP P a).length : Int) = 0 ∧ BackA P a ((pathP P a).length : Int) = 0 := by
  have hl : (pathP P a).length = (up P a).length := by simp [pathP, wayP]
  unfold BackE BackA
  rw [hl, if_neg (by omega), if_neg (by omega), if_neg (by omega), if_neg (by omega), Int.toNat_natCast]
  exact ⟨rfl, backP_all hI⟩
theorem back_none (P : List Page) : BackE P 0 1 = 4 ∧ BackA P 0 1 = 0 := by
  unfold BackE BackA
  rw [up_zero]
  exact ⟨rfl, rfl⟩
end Go.Proofs.YtccnfbjdpgmlhaaGreatDoor
