/- The chest's books as plain lists: what changes make of them. Ways, forks, and what moving does, as plain lists. -/
import Derived.Test.YtccnfbjdpgmlhaaGreatDoorChG
namespace Go.Proofs.YtccnfbjdpgmlhaaGreatDoor
set_option linter.unusedVariables false
set_option linter.unusedSimpArgs false

theorem bytes_ext {x y : ByteArray} (h : x.toList = y.toList) : x = y := by
  rw [Lib.toList_data, Lib.toList_data] at h
  have h2 : x.data = y.data := Array.toList_inj.mp h
  cases x; cases y
  exact congrArg _ h2
theorem empty_toList : ByteArray.empty.toList = [] := by rw [Lib.toList_data]; rfl
theorem idxT_first {α : Type} (p : α → Bool) (z : α) (l : List α) : ∀ (i : Int), 0 ≤ i →
    (∃ k, k < l.length ∧ idxT p l i = i + k ∧ p (l.getD k z) = true ∧ ∀ j, j < k → p (l.getD j z) = false) ∨ (idxT p l i = -1 ∧ ∀ k, k < l.length → p (l.getD k z) = false) := by
  induction l with
  | nil => intro i hi; exact .inr ⟨rfl, fun k hk => by simp at hk⟩
  | cons x l ih =>
    intro i hi
    by_cases hp : p x = true
    · exact .inl ⟨0, by simp, by simp [idxT, hp], hp, fun j hj => by omega⟩
    · have hp' : p x = false := by simpa using hp
      have e : idxT p (x :: l) i = idxT p l (i + 1) := by simp [idxT, hp']
      rw [e]
      rcases ih (i + 1) (by omega) with ⟨k, hk, he, hy, hn⟩ | ⟨he, hn⟩
      · refine .inl ⟨k + 1, by simp; omega, by rw [he]; omega, hy, fun j hj => ?_⟩
        cases j with
        | zero => exact hp'
        | succ j => exact hn j (by omega)
      · refine .inr ⟨he, fun k hk => ?_⟩
        cases k with
        | zero => exact hp'
        | succ k => exact hn k (by simp at hk; omega)

def stP (P : List Page) (p : Nat) : St := (P.getD p default).st
/-- the first child of a page with a change. -/
def childP (P : List Page) (a : Nat) (line : ByteArray) : Int := idxT (childB a line) (P.map Page.pg) 0
theorem pg_getD (P : List Page) (k : Nat) (hk : k < P.length) : (P.map Page.pg).getD k default = (P.getD k default).pg := by
  rw [List.getD_eq_getElem?_getD, List.getD_eq_getElem?_getD, List.getElem?_map, List.getElem?_eq_getElem hk]; rfl
theorem childB_iff (P : List Page) (a k : Nat) (line : ByteArray) (hk : k < P.length) : childB a line ((P.map Page.pg).getD k default) = true ↔ chg P k = line ∧ par P k = a ∧ line.toList ≠ [] := by
  rw [pg_getD P k hk]
  simp only [childB, Page.pg, chg, par, Bool.and_eq_true, beq_iff_eq, Bool.not_eq_true', List.isEmpty_eq_false_iff]
  constructor
  · rintro ⟨h1, h2, h3⟩
    have := bytes_ext h1
    exact ⟨this, by omega, by rw [← h1]; exact h3⟩
  · rintro ⟨rfl, h2, h3⟩
    exact ⟨rfl, by omega, h3⟩
/-- what the search for a child comes to. -/
theorem childP_cases (P : List Page) (a : Nat) (line : ByteArray) :
    (∃ k : Nat, k < P.length ∧ childP P a line = k ∧ chg P k = line ∧ par P k = a ∧ line.toList ≠ [] ∧ ∀ j, j < k → ¬ (chg P j = line ∧ par P j = a)) ∨
    (childP P a line = -1 ∧ ∀ k, k < P.length → line.toList ≠ [] → ¬ (chg P k = line ∧ par P k = a)) := by
  have hl : (P.map Page.pg).length = P.length := by simp
  rcases idxT_first (childB a line) default (P.map Page.pg) 0 (by omega) with ⟨k, hk, he, hy, hn⟩ | ⟨he, hn⟩
  · rw [hl] at hk
    have h := (childB_iff P a k line hk).mp hy
    refine .inl ⟨k, hk, by unfold childP; rw [he]; omega, h.1, h.2.1, h.2.2, fun j hj hc => ?_⟩
    have := hn j hj
    rw [(childB_iff P a j line (by omega)).mpr ⟨hc.1, hc.2, h.2.2⟩] at this
    cases this
  · refine .inr ⟨he, fun k hk hne hc => ?_⟩
    have := hn k (by omega)
    rw [(childB_iff P a k line hk).mpr ⟨hc.1, hc.2, hne⟩] at this
    cases this

section
variable (F : St → ByteArray → St × ByteArray × Int)
/-- the books of a chest: page 0, and pages each of which a change has made of an earlier one, no two of one parent by one change. -/
structure Book (P : List Page) : Prop where
  tree : Tree P
  most : P.length ≤ 200
  some_ : 0 < P.length
  root : par P 0 = 0 ∧ chg P 0 = ByteArray.empty ∧ stP P 0 = St.zero
  made : ∀ i, 0 < i → i < P.length → (chg P i).toList ≠ [] ∧ (F (stP P (par P i)) (chg P i)).1 = stP P i ∧ (F (stP P (par P i)) (chg P i)).2.2 = 0
  once : ∀ i j, 0 < i → 0 < j → i < P.length → j < P.length → chg P i = chg P j → par P i = par P j → i = j
/-- what Do makes of pages, of where the chest is; its reply and its code. q: the block of a new page's state. -/
def doP (P : List Page) (a : Nat) (line : ByteArray) (q : Nat) : List Page × Nat × ByteArray × Int :=
  if (F (stP P a) line).2.2 ≠ 0 then (P, a, ByteArray.empty, (F (stP P a) line).2.2)
  else if 0 ≤ childP P a line then (P, (childP P a line).toNat, (F (stP P a) line).2.1, 0)
  else if P.length = 200 then (P, a, ByteArray.empty, 7)
  else (P ++ [⟨line, a, q, (F (stP P a) line).1⟩], P.length, (F (stP P a) line).2.1, 0)
end

theorem getD_app {P : List Page} {x : Page} {k : Nat} (hk : k < P.length) : (P ++ [x]).getD k default = P.getD k default := by
  rw [List.getD_eq_getElem?_getD, List.getD_eq_getElem?_getD, List.getElem?_append_left hk]
theorem getD_last {P : List Page} {x : Page} : (P ++ [x]).getD P.length default = x := by
  rw [List.getD_eq_getElem?_getD, List.getElem?_append_right (by omega)]; simp
theorem par_app {P : List Page} {x : Page} {k : Nat} (hk : k < P.length) : par (P ++ [x]) k = par P k := by unfold par; rw [getD_app hk]
theorem chg_app {P : List Page} {x : Page} {k : Nat} (hk : k < P.length) : chg (P ++ [x]) k = chg P k := by unfold chg; rw [getD_app hk]
theorem stP_app {P : List Page} {x : Page} {k : Nat} (hk : k < P.length) : stP (P ++ [x]) k = stP P k := by unfold stP; rw [getD_app hk]
theorem up_app {P : List Page} {x : Page} (hT : Tree P) (hT' : Tree (P ++ [x])) : ∀ k, k < P.length → up (P ++ [x]) k = up P k := by
  intro k
  induction k using Nat.strongRecOn with
  | ind k ih =>
    intro hk
    rcases Nat.eq_zero_or_pos k with h | h
    · subst h; rfl
    · rw [up_par _ hT' k h (by simp; omega), up_par _ hT k h hk, par_app hk]
      have := hT k h hk
      rw [ih (par P k) this (by unfold par; omega)]
theorem Book.par_lt {F : St → ByteArray → St × ByteArray × Int} {P : List Page} (h : Book F P) {k : Nat} (hk : k < P.length) : par P k < P.length := by
  rcases Nat.eq_zero_or_pos k with h0 | h0
  · subst h0; rw [h.root.1]; exact h.some_
  · have := h.tree k h0 hk; unfold par; omega

/-- a new page is a good one. -/
theorem Book.add {F : St → ByteArray → St × ByteArray × Int} {P : List Page} (h : Book F P) {a : Nat} (ha : a < P.length) (line : ByteArray) (q : Nat) (hne : line.toList ≠ []) (h0 : (F (stP P a) line).2.2 = 0)
    (hl : P.length < 200) (hno : ∀ k, k < P.length → ¬ (chg P k = line ∧ par P k = a)) : Book F (P ++ [⟨line, a, q, (F (stP P a) line).1⟩]) := by
  have hlen : (P ++ [(⟨line, a, q, (F (stP P a) line).1⟩ : Page)]).length = P.length + 1 := by simp
  have eP : par (P ++ [(⟨line, a, q, (F (stP P a) line).1⟩ : Page)]) P.length = a := by unfold par; rw [getD_last]
  have eC : chg (P ++ [(⟨line, a, q, (F (stP P a) line).1⟩ : Page)]) P.length = line := by unfold chg; rw [getD_last]
  have eS : stP (P ++ [(⟨line, a, q, (F (stP P a) line).1⟩ : Page)]) P.length = (F (stP P a) line).1 := by unfold stP; rw [getD_last]
  refine ⟨fun i h1 h2 => ?_, by omega, by omega, ?_, fun i h1 h2 => ?_, fun i j h1 h2 h3 h4 h5 h6 => ?_⟩
  · rw [hlen] at h2
    show par _ i < i
    rcases (show i < P.length ∨ i = P.length by omega) with h3 | rfl
    · rw [par_app h3]; exact h.tree i h1 h3
    · rw [eP]; exact ha
  · rw [par_app h.some_, chg_app h.some_, stP_app h.some_]; exact h.root
  · rw [hlen] at h2
    rcases (show i < P.length ∨ i = P.length by omega) with h3 | rfl
    · rw [par_app h3, chg_app h3, stP_app h3, stP_app (h.par_lt h3)]; exact h.made i h1 h3
    · rw [eP, eC, eS, stP_app ha]; exact ⟨hne, rfl, h0⟩
  · rw [hlen] at h3 h4
    rcases (show i < P.length ∨ i = P.length by omega) with h7 | rfl
    · rcases (show j < P.length ∨ j = P.length by omega) with h8 | rfl
      · rw [par_app h7, par_app h8] at h6
        rw [chg_app h7, chg_app h8] at h5
        exact h.once i j h1 h2 h7 h8 h5 h6
      · rw [eC, chg_app h7] at h5
        rw [eP, par_app h7] at h6
        exact absurd ⟨h5, h6⟩ (hno i h7)
    · rcases (show j < P.length ∨ j = P.length by omega) with h8 | rfl
      · rw [eC, chg_app h8] at h5
        rw [eP, par_app h8] at h6
        exact absurd ⟨h5.symm, h6.symm⟩ (hno j h8)
      · rfl
/-- Do's ways: nothing; to a child that is there; to a new page. -/
theorem doP_cases (F : St → ByteArray → St × ByteArray × Int) (hF : ∀ s l, (F s l).2.2 = 0 → l.toList ≠ []) {P : List Page} (h : Book F P) {a : Nat} (ha : a < P.length) (line : ByteArray) (q : Nat) :
    (doP F P a line q = (P, a, ByteArray.empty, (doP F P a line q).2.2.2) ∧ (doP F P a line q).2.2.2 ≠ 0) ∨
    ((F (stP P a) line).2.2 = 0 ∧ ∃ k, k < P.length ∧ 0 < k ∧ doP F P a line q = (P, k, (F (stP P a) line).2.1, 0) ∧ chg P k = line ∧ par P k = a) ∨
    ((F (stP P a) line).2.2 = 0 ∧ P.length < 200 ∧ (∀ k, k < P.length → ¬ (chg P k = line ∧ par P k = a)) ∧ doP F P a line q = (P ++ [⟨line, a, q, (F (stP P a) line).1⟩], P.length, (F (stP P a) line).2.1, 0)) := by
  by_cases h0 : (F (stP P a) line).2.2 = 0
  · have hne := hF _ _ h0
    have d0 : doP F P a line q = if 0 ≤ childP P a line then (P, (childP P a line).toNat, (F (stP P a) line).2.1, 0)
      else if P.length = 200 then (P, a, ByteArray.empty, 7) else (P ++ [⟨line, a, q, (F (stP P a) line).1⟩], P.length, (F (stP P a) line).2.1, 0) := by
      unfold doP; rw [if_neg (by simp [h0])]
    rcases childP_cases P a line with ⟨k, hk, he, hc, hp, _, hn⟩ | ⟨he, hn⟩
    · refine .inr (.inl ⟨h0, k, hk, ?_, by rw [d0, he, if_pos (by omega), Int.toNat_natCast], hc, hp⟩)
      rcases Nat.eq_zero_or_pos k with hz | hz
      · subst hz
        rw [h.root.2.1] at hc
        rw [← hc] at hne
        exact absurd empty_toList hne
      · exact hz
    · by_cases hl : P.length = 200
      · exact .inl ⟨by rw [d0, he, if_neg (by omega), if_pos hl], by rw [d0, he, if_neg (by omega), if_pos hl]; show (7 : Int) ≠ 0; decide⟩
      · have := h.most
        exact .inr (.inr ⟨h0, by omega, fun k hk => hn k hk hne, by rw [d0, he, if_neg (by omega), if_neg hl]⟩)
  · refine .inl ⟨?_, ?_⟩ <;> (unfold doP; rw [if_pos h0])
    exact h0
theorem Book.do_ {F : St → ByteArray → St × ByteArray × Int} (hF : ∀ s l, (F s l).2.2 = 0 → l.toList ≠ []) {P : List Page} (h : Book F P) {a : Nat} (ha : a < P.length) (line : ByteArray) (q : Nat) :
    Book F (doP F P a line q).1 ∧ (doP F P a line q).2.1 < (doP F P a line q).1.length := by
  rcases doP_cases F hF h ha line q with ⟨e, _⟩ | ⟨_, k, hk, _, e, _, _⟩ | ⟨h0, hl, hno, e⟩
  · rw [e]; exact ⟨h, ha⟩
  · rw [e]; exact ⟨h, hk⟩
  · rw [e]; exact ⟨h.add ha line q (hF _ _ h0) h0 hl hno, by simp⟩
/-- the change of a page, made once more at its parent, comes to it. -/
theorem doP_again {F : St → ByteArray → St × ByteArray × Int} {P : List Page} (h : Book F P) {k : Nat} (h0 : 0 < k) (hk : k < P.length) (q : Nat) :
    doP F P (par P k) (chg P k) q = (P, k, (F (stP P (par P k)) (chg P k)).2.1, 0) := by
  obtain ⟨hne, hs, hz⟩ := h.made k h0 hk
  have d0 : doP F P (par P k) (chg P k) q = if 0 ≤ childP P (par P k) (chg P k) then (P, (childP P (par P k) (chg P k)).toNat, (F (stP P (par P k)) (chg P k)).2.1, 0)
      else if P.length = 200 then (P, par P k, ByteArray.empty, 7) else (P ++ [⟨chg P k, par P k, q, (F (stP P (par P k)) (chg P k)).1⟩], P.length, (F (stP P (par P k)) (chg P k)).2.1, 0) := by
    unfold doP; rw [if_neg (by simp [hz])]
  rcases childP_cases P (par P k) (chg P k) with ⟨j, hj, he, hc, hp, _, hn⟩ | ⟨he, hn⟩
  · have hj0 : 0 < j := by
      rcases Nat.eq_zero_or_pos j with hz | hz
      · subst hz
        rw [h.root.2.1] at hc
        rw [← hc] at hne
        exact absurd empty_toList hne
      · exact hz
    have := h.once j k hj0 h0 hj hk hc hp
    subst this
    rw [d0, he, if_pos (by omega), Int.toNat_natCast]
  · exact absurd ⟨rfl, rfl⟩ (hn k hk hne)
theorem Book.ok {F : St → ByteArray → St × ByteArray × Int} {P : List Page} (h : Book F P) {a : Nat} (ha : a < P.length) : Ok P a := ⟨h.tree, h.most, ha⟩
end Go.Proofs.YtccnfbjdpgmlhaaGreatDoor

namespace Go.Proofs.YtccnfbjdpgmlhaaGreatDoor
set_option linter.unusedVariables false
set_option linter.unusedSimpArgs false

def lastN : List Nat → Nat → Nat
  | [], a => a
  | x :: xs, _ => lastN xs x
theorem lastN_snoc (xs : List Nat) (p : Nat) : ∀ a, lastN (xs ++ [p]) a = p := by
  induction xs with
  | nil => intro a; rfl
  | cons x xs ih => intro a; exact ih x
theorem forkF_app (xs r : List Nat) : ∀ a, forkF xs (xs ++ r) a = (lastN xs a, r) := by
  induction xs with
  | nil => intro a; cases r <;> rfl
  | cons x xs ih =>
    intro a
    show (if x = x then forkF xs (xs ++ r) x else _) = _
    rw [if_pos rfl]; exact ih x
theorem forkF_app2 (xs r : List Nat) : ∀ a, forkF (xs ++ r) xs a = (lastN xs a, []) := by
  induction xs with
  | nil => intro a; cases r <;> rfl
  | cons x xs ih =>
    intro a
    show (if x = x then forkF (xs ++ r) xs x else _) = _
    rw [if_pos rfl]; exact ih x
/-- how many at the front are the same. -/
def comm : List Nat → List Nat → Nat
  | x :: xs, y :: ys => if x = y then comm xs ys + 1 else 0
  | [], _ => 0
  | _ :: _, [] => 0
theorem comm_symm (xs : List Nat) : ∀ ys, comm xs ys = comm ys xs := by
  induction xs with
  | nil => intro ys; cases ys <;> rfl
  | cons x xs ih =>
    intro ys
    cases ys with
    | nil => rfl
    | cons y ys =>
      show (if x = y then _ else _) = (if y = x then _ else _)
      by_cases h : x = y
      · rw [if_pos h, if_pos h.symm, ih]
      · rw [if_neg h, if_neg (fun e => h e.symm)]
theorem comm_le (xs : List Nat) : ∀ ys, comm xs ys ≤ xs.length := by
  induction xs with
  | nil => intro ys; cases ys <;> exact Nat.le_refl _
  | cons x xs ih =>
    intro ys
    cases ys with
    | nil => exact Nat.zero_le _
    | cons y ys =>
      show (if x = y then comm xs ys + 1 else 0) ≤ _
      have := ih ys
      split <;> simp <;> omega
theorem forkF_comm (xs : List Nat) : ∀ ys a, (forkF xs ys a).1 = (a :: xs).getD (comm xs ys) 0 := by
  induction xs with
  | nil => intro ys a; cases ys <;> rfl
  | cons x xs ih =>
    intro ys a
    cases ys with
    | nil => rfl
    | cons y ys =>
      show (if x = y then forkF xs ys x else (a, y :: ys)).1 = (a :: x :: xs).getD (if x = y then comm xs ys + 1 else 0) 0
      by_cases h : x = y
      · rw [if_pos h, if_pos h, ih]; rfl
      · rw [if_neg h, if_neg h]; rfl
theorem forkF_symm (xs : List Nat) : ∀ ys a, (forkF xs ys a).1 = (forkF ys xs a).1 := by
  induction xs with
  | nil => intro ys a; cases ys <;> rfl
  | cons x xs ih =>
    intro ys a
    cases ys with
    | nil => rfl
    | cons y ys =>
      show (if x = y then forkF xs ys x else (a, y :: ys)).1 = (if y = x then forkF ys xs y else (a, x :: xs)).1
      by_cases h : x = y
      · subst h; rw [if_pos rfl, if_pos rfl, ih]
      · rw [if_neg h, if_neg (fun e => h e.symm)]

theorem wayP_zero (P : List Page) : wayP P 0 = [] := rfl
theorem wayP_step {P : List Page} (hT : Tree P) {p : Nat} (h0 : 0 < p) (hl : p < P.length) : wayP P p = wayP P (par P p) ++ [p] := by
  unfold wayP; rw [up_par P hT p h0 hl]; simp
theorem wayP_last {P : List Page} (hT : Tree P) {p : Nat} (hl : p < P.length) : lastN (wayP P p) 0 = p := by
  rcases Nat.eq_zero_or_pos p with h | h
  · subst h; rfl
  · rw [wayP_step hT h hl, lastN_snoc]
theorem wayP_in {P : List Page} (hT : Tree P) {a : Nat} (ha : a < P.length) {p : Nat} (hp : p ∈ wayP P a) : 0 < p ∧ p < P.length ∧ p ≤ a :=
  wayP_mem hT a a (Nat.le_refl _) ha p (by simpa [wayP] using hp)
theorem fork_self {P : List Page} (hT : Tree P) {a : Nat} (ha : a < P.length) : (forkP P a a).1 = a := by
  have := forkF_app (wayP P a) [] 0
  rw [List.append_nil] at this
  unfold forkP; rw [this]; exact wayP_last hT ha
theorem fork_symm (P : List Page) (a b : Nat) : (forkP P a b).1 = (forkP P b a).1 := forkF_symm _ _ _
theorem getD_mem0 {l : List Nat} {k : Nat} (a : Nat) : (a :: l).getD k 0 = a ∨ (a :: l).getD k 0 ∈ l ∨ (a :: l).getD k 0 = 0 := by
  cases k with
  | zero => exact .inl rfl
  | succ k =>
    by_cases h : k < l.length
    · exact .inr (.inl (by show l.getD k 0 ∈ l; exact getD_mem h))
    · exact .inr (.inr (by show l.getD k 0 = 0; rw [List.getD_eq_getElem?_getD, List.getElem?_eq_none (by omega)]; rfl))
theorem fork_le {P : List Page} (hT : Tree P) {a : Nat} (ha : a < P.length) (b : Nat) : (forkP P a b).1 ≤ a := by
  unfold forkP; rw [forkF_comm]
  rcases getD_mem0 (l := wayP P a) (k := comm (wayP P a) (wayP P b)) 0 with h | h | h
  · omega
  · exact (wayP_in hT ha h).2.2
  · omega
theorem fork_par {P : List Page} (hT : Tree P) {a : Nat} (h0 : 0 < a) (ha : a < P.length) : (forkP P a (par P a)).1 = par P a := by
  have hp : par P a < P.length := by have := hT a h0 ha; unfold par; omega
  unfold forkP; rw [wayP_step hT h0 ha, forkF_app2]; exact wayP_last hT hp
/-- a page on the way to another one: the way goes on from there. -/
theorem wayP_split {P : List Page} (hT : Tree P) : ∀ a, a < P.length → ∀ f, f = 0 ∨ f ∈ wayP P a → ∃ r, wayP P a = wayP P f ++ r := by
  intro a
  induction a using Nat.strongRecOn with
  | ind a ih =>
    intro ha f hf
    rcases hf with rfl | hf
    · exact ⟨wayP P a, by rw [wayP_zero]; rfl⟩
    · rcases Nat.eq_zero_or_pos a with h | h
      · subst h; rw [wayP_zero] at hf; cases hf
      · have hlt : par P a < a := hT a h ha
        rw [wayP_step hT h ha] at hf ⊢
        rcases List.mem_append.mp hf with h1 | h1
        · obtain ⟨r, hr⟩ := ih (par P a) hlt (by omega) f (.inr h1)
          exact ⟨r ++ [a], by rw [hr, List.append_assoc]⟩
        · have e := List.mem_singleton.mp h1
          subst e
          exact ⟨[], by rw [List.append_nil, wayP_step hT h ha]⟩
/-- all along a way each page's parent is the one before it. -/
theorem wayP_chain {P : List Page} (hT : Tree P) : ∀ a, a < P.length → ∀ k, k < (wayP P a).length → par P ((wayP P a).getD k 0) = (0 :: wayP P a).getD k 0 := by
  intro a
  induction a using Nat.strongRecOn with
  | ind a ih =>
    intro ha k hk
    rcases Nat.eq_zero_or_pos a with h | h
    · subst h; rw [wayP_zero] at hk; cases hk
    · have hlt : par P a < a := hT a h ha
      rw [wayP_step hT h ha] at hk ⊢
      rw [List.length_append, List.length_singleton] at hk
      by_cases hk2 : k < (wayP P (par P a)).length
      · have := ih (par P a) hlt (by omega) k hk2
        rw [List.getD_eq_getElem?_getD, List.getElem?_append_left hk2, ← List.getD_eq_getElem?_getD, this]
        cases k with
        | zero => rfl
        | succ k =>
          show (wayP P (par P a)).getD k 0 = (wayP P (par P a) ++ [a]).getD k 0
          rw [List.getD_eq_getElem?_getD, List.getD_eq_getElem?_getD, List.getElem?_append_left (by omega)]
      · obtain rfl : k = (wayP P (par P a)).length := by omega
        have e1 : (wayP P (par P a) ++ [a]).getD (wayP P (par P a)).length 0 = a := by
          rw [List.getD_eq_getElem?_getD, List.getElem?_append_right (Nat.le_refl _)]; simp
        rw [e1]
        rcases Nat.eq_zero_or_pos (par P a) with hz | hz
        · rw [hz]; simp [wayP_zero]
        · have hpl : par P a < P.length := by omega
          have e2 := wayP_step hT hz hpl
          rw [e2]
          rw [List.length_append, List.length_singleton]
          show _ = (wayP P (par P (par P a)) ++ [par P a] ++ [a]).getD (wayP P (par P (par P a))).length 0
          rw [List.getD_eq_getElem?_getD, List.append_assoc, List.getElem?_append_right (Nat.le_refl _)]
          simp
theorem wayP_app {P : List Page} {x : Page} (hT : Tree P) (hT' : Tree (P ++ [x])) {k : Nat} (hk : k < P.length) : wayP (P ++ [x]) k = wayP P k := by unfold wayP; rw [up_app hT hT' k hk]
theorem pathP_app {P : List Page} {x : Page} (hT : Tree P) (hT' : Tree (P ++ [x])) {k : Nat} (hk : k < P.length) : pathP (P ++ [x]) k = pathP P k := by
  unfold pathP
  rw [wayP_app hT hT' hk]
  refine List.map_congr_left (fun p hp => chg_app (wayP_in hT hk hp).2.1)
theorem pathP_step {P : List Page} (hT : Tree P) {p : Nat} (h0 : 0 < p) (hl : p < P.length) : pathP P p = pathP P (par P p) ++ [chg P p] := by
  unfold pathP; rw [wayP_step hT h0 hl, List.map_append]; rfl
theorem isChild_mem {P : List Page} {a k : Nat} (h0 : 0 < k) (hk : k < P.length) (hp : par P k = a) : k ∈ childrenTo P a P.length := by
  unfold childrenTo isChild
  rw [List.mem_filter]
  exact ⟨List.mem_range.mpr hk, by simp [h0, hp]⟩
end Go.Proofs.YtccnfbjdpgmlhaaGreatDoor
