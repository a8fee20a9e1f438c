/- Walks of the chest: the gap between shares. -/
import Derived.Test.YtccnfbjdpgmlhaaGreatDoorChN
namespace Go.Proofs.YtccnfbjdpgmlhaaGreatDoor
open Go.RowKit Go.Proofs.YtccnfbjdpgmlhaaGreatDoorW.PrintWords Go.Proofs.YtccnfbjdpgmlhaaGreatDoorW.PrintLast Go.Proofs.YtccnfbjdpgmlhaaGreatDoorW.PrintMore
set_option linter.unusedVariables false
set_option linter.unusedSimpArgs false

def gapRow (xs : List Int) (a : Int) : Nat → Int
  | 0 => 0
  | j + 1 => gapRow xs a j + max (a - xs.getD j 0) (xs.getD j 0 - a)
def gapN (xs : List Int) : Nat → Int
  | 0 => 0
  | i + 1 => gapN xs i + gapRow xs (xs.getD i 0) i
/-- the sum of all differences. -/
def gapF (xs : List Int) : Int := gapN xs xs.length
def Small20 (xs : List Int) : Prop := ∀ x ∈ xs, 0 ≤ x ∧ x ≤ 20
theorem Small20.at_ {xs : List Int} (h : Small20 xs) (j : Nat) : 0 ≤ xs.getD j 0 ∧ xs.getD j 0 ≤ 20 := by
  rcases Nat.lt_or_ge j xs.length with hj | hj
  · exact h _ (getD_mem (z := (0 : Int)) hj)
  · rw [List.getD_eq_getElem?_getD, List.getElem?_eq_none hj]; exact ⟨by decide, by decide⟩
theorem gapRow_bound {xs : List Int} (h : Small20 xs) {a : Int} (ha : 0 ≤ a ∧ a ≤ 20) : ∀ j : Nat, 0 ≤ gapRow xs a j ∧ gapRow xs a j ≤ 20 * j := by
  intro j
  induction j with
  | zero => exact ⟨Int.le_refl _, by simp [gapRow]⟩
  | succ j ih =>
    have := h.at_ j
    simp only [gapRow]
    omega
theorem gapN_bound {xs : List Int} (h : Small20 xs) : ∀ i : Nat, i ≤ 6 → 0 ≤ gapN xs i ∧ gapN xs i ≤ 120 * i := by
  intro i
  induction i with
  | zero => intro _; exact ⟨Int.le_refl _, by simp [gapN]⟩
  | succ i ih =>
    intro hi
    have h1 := ih (by omega)
    have h2 := gapRow_bound h (h.at_ i) i
    simp only [gapN]
    omega
theorem foldl_min_ge : ∀ (l : List Int) (z : Int), 0 ≤ z → (∀ x ∈ l, 0 ≤ x) → 0 ≤ l.foldl min z := by
  intro l
  induction l with
  | nil => intro z hz _; exact hz
  | cons x l ih =>
    intro z hz h
    have := h x (by simp)
    exact ih _ (by omega) (fun y hy => h y (by simp [hy]))
theorem foldl_max_le (m : Int) : ∀ (l : List Int) (z : Int), z ≤ m → (∀ x ∈ l, x ≤ m) → l.foldl max z ≤ m := by
  intro l
  induction l with
  | nil => intro z hz _; exact hz
  | cons x l ih =>
    intro z hz h
    have := h x (by simp)
    exact ih _ (by omega) (fun y hy => h y (by simp [hy]))
theorem Small20.are {xs : List Int} (h : Small20 xs) : areB xs = true := by
  have hd : 0 ≤ xs.headD 0 ∧ xs.headD 0 ≤ 20 := by
    cases xs with
    | nil => exact ⟨by decide, by decide⟩
    | cons x l => exact h x (by simp)
  have h1 : 0 ≤ Lib.minOf xs := foldl_min_ge _ _ hd.1 (fun x hx => (h x hx).1)
  have h2 : Lib.maxOf xs ≤ 20 := foldl_max_le 20 _ _ hd.2 (fun x hx => (h x hx).2)
  unfold areB
  rw [decide_eq_false (by omega), decide_eq_false (by omega)]
  rfl
set_option maxHeartbeats 2000000 in
theorem Gap_calls (g cap : Nat) (xs : List Int) (w : World) (h1 : 1 ≤ xs.length) (h6 : xs.length ≤ 6) (hc : xs.length ≤ cap) (hS : Small20 xs) (hx : ∀ j, j < xs.length → w.cell? ⟨g, j, none⟩ = some (.int .i64 (xs.getD j 0))) :
    Calls Tryz.prog 82 #[.slice (some ⟨g, 0, none⟩) xs.length cap] w fun e w' => e = .returned (.tuple #[.int .i64 (gapF xs), .int .i64 0]) ∧ Below w.heap.size w w' := by
  have ho : Below w.heap.size w (w.alloc (.cells #[.slice (some ⟨g, 0, none⟩) xs.length cap] 128)) := below_alloc (Below.refl _ _) _
  have hX : ∀ j, j < xs.length → (w.alloc (.cells #[.slice (some ⟨g, 0, none⟩) xs.length cap] 37)).cell? ⟨g, j, none⟩ = some (.int .i64 (xs.getD j 0)) := fun j hj => ((below_alloc (Below.refl _ _) _).cell (World.block_lt_of_cell? w _ (hx j hj))).trans (hx j hj)
  have hare := are_calls w.heap.size 1 xs.length [⟨g, cap, xs⟩] (w.alloc (.cells #[.slice (some ⟨g, 0, none⟩) xs.length cap] 37)) h1 h6 (by simp) (by simp)
    (fun j hj => by
      obtain rfl : j = 0 := by simp at hj; exact hj
      exact (blk_cell (blk_new w (.cells #[.slice (some ⟨g, 0, none⟩) xs.length cap] 37)) 0).trans rfl)
    (fun r hr => by
      obtain rfl : r = ⟨g, cap, xs⟩ := by simpa using hr
      exact ⟨rfl, fun j hj => by rw [Nat.zero_add]; exact hX j hj⟩)
  have e1 : ([(⟨g, cap, xs⟩ : Row)].all fun r => areB r.xs) = true := by simp [hS.are]
  have e2 : [(⟨g, cap, xs⟩ : Row)].length = 1 := rfl
  rw [e1, e2] at hare
  have HX := Aside0.mk hX
  have HS := Aside0.mk hS
  have HB := Aside0.mk (show Below w.heap.size w (w.alloc (.cells #[.slice (some ⟨g, 0, none⟩) xs.length cap] 37)) from below_alloc (Below.refl _ _) _)
  clear ho hx hX hS e1 e2
  have hln : (0 : Int) ≤ (xs.length : Int) := by omega
  go_enter Tryz.func82, Tryz.ntmps82
  go_wp2_with (go_at_call 103; (with_reducible refine hare.mono ?_); rintro e w' ⟨rfl, rfl⟩)
  go_loopg [4, 15] xs.length (fun gg s4 s15 W => ∃ (i : Nat), s4 = .int .i64 (gapN xs i) ∧ s15 = .int .i64 i ∧ i ≤ xs.length ∧ Aside0 (xs.length - i ≤ gg) ∧ W = w.alloc (.cells #[.slice (some ⟨g, 0, none⟩) xs.length cap] 37))
  case atStart => exact ⟨0, rfl, rfl, Nat.zero_le _, ⟨by omega⟩, rfl⟩
  case round =>
    obtain ⟨i, rfl, rfl, hi, hgi, rfl⟩ := hrel
    rcases Nat.lt_or_ge i xs.length with hlt | hge
    · have hltz : (i : Int) < (xs.length : Int) := by omega
      have hi0 : (0 : Int) ≤ (i : Int) := by omega
      have xi := HX.out i hlt
      have hcz : (i : Int) ≤ (cap : Int) := by omega
      have hbi := HS.out.at_ i
      have hni := gapN_bound HS.out i (by omega)
      have EN := Aside0.mk (show gapN xs (i + 1) = gapN xs i + gapRow xs (xs.getD i 0) i from rfl)
      have HRB := Aside0.mk (fun j => gapRow_bound HS.out hbi j)
      have ER := Aside0.mk (fun j => show gapRow xs (xs.getD i 0) (j + 1) = gapRow xs (xs.getD i 0) j + max (xs.getD i 0 - xs.getD j 0) (xs.getD j 0 - xs.getD i 0) from rfl)
      have E0 := Aside0.mk (show gapRow xs (xs.getD i 0) 0 = 0 from rfl)
      generalize gapN xs i = s at hni EN ⊢
      generalize gapRow xs (xs.getD i 0) = fr at EN HRB ER E0
      generalize xs.getD i 0 = a at xi hbi ER
      go_wp2
      go_loopg [4, 24] i (fun gg s4 s24 W => ∃ (j : Nat), s4 = .int .i64 (s + fr j) ∧ s24 = .int .i64 j ∧ j ≤ i ∧ Aside0 (i - j ≤ gg) ∧ W = w.alloc (.cells #[.slice (some ⟨g, 0, none⟩) xs.length cap] 37))
      case atStart => exact ⟨0, by rw [E0.out, Int.add_zero], rfl, Nat.zero_le _, ⟨by omega⟩, rfl⟩
      case round =>
        obtain ⟨j, rfl, rfl, hj, hgj, rfl⟩ := hrel
        have hrj := HRB.out j
        rcases Nat.lt_or_ge j i with hlt2 | hge2
        · have hltz2 : (j : Int) < (i : Int) := by omega
          have hj0 : (0 : Int) ≤ (j : Int) := by omega
          have xj := HX.out j (by omega)
          have hbj := HS.out.at_ j
          have EJ := Aside0.mk (ER.out j)
          generalize xs.getD j 0 = b at xj hbj EJ
          generalize fr j = t at hrj EJ ⊢
          have hmx : max (a - b) (b - a) ≤ 20 ∧ 0 ≤ max (a - b) (b - a) := by omega
          go_wp2
          go_roundg (i - (j + 1))
          case measure => have := hgj.out; omega
          case rel => exact ⟨j + 1, by rw [EJ.out]; go_num, by go_num, by omega, ⟨Nat.le_refl _⟩, rfl⟩
        · have hltz2 : ¬ (j : Int) < (i : Int) := by omega
          obtain rfl : j = i := by omega
          go_wp2
          go_roundg (xs.length - (j + 1))
          case measure => have := hgi.out; omega
          case rel => exact ⟨j + 1, by rw [EN.out], by go_num, by omega, ⟨Nat.le_refl _⟩, rfl⟩
    · have hltz : ¬ (i : Int) < (xs.length : Int) := by omega
      obtain rfl : i = xs.length := by omega
      go_wp2
      go_ret2
      exact ⟨rfl, HB.out⟩
end Go.Proofs.YtccnfbjdpgmlhaaGreatDoor
