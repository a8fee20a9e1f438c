/- Walks of the chest: Give.do. Walks of the chest: CheckGives. Walks of the chest: give. -/
import Derived.Test.YtccnfbjdpgmlhaaGreatDoorChN
import Derived.BigQuiet
import Derived.Deep.Cut
namespace Go.Proofs.YtccnfbjdpgmlhaaGreatDoor
open Go.RowKit Go.Proofs.YtccnfbjdpgmlhaaGreatDoorW.PrintWords Go.Proofs.YtccnfbjdpgmlhaaGreatDoorW.PrintLast Go.Proofs.YtccnfbjdpgmlhaaGreatDoorW.PrintMore
set_option linter.unusedVariables false
set_option linter.unusedSimpArgs false

def giveB (xs : List Int) (i j : Nat) (m : Int) : Prop := i ≠ j ∧ 1 ≤ m ∧ m ≤ 20 ∧ 2 * m ≤ xs.getD i 0 - xs.getD j 0
instance (xs : List Int) (i j : Nat) (m : Int) : Decidable (giveB xs i j m) := inferInstanceAs (Decidable (_ ∧ _ ∧ _ ∧ _))
def moved (xs : List Int) (i j : Nat) (m : Int) : List Int := (xs.set i (xs.getD i 0 - m)).set j (xs.getD j 0 + m)
def rowV (g cap n : Nat) : Value := .slice (some ⟨g, 0, none⟩) n cap
def GiveR (g cap base : Nat) (xs : List Int) (i j : Nat) (m : Int) (w : World) (e : Ending) (w' : World) : Prop :=
  e = .returned (.bool (decide (giveB xs i j m))) ∧ Kd.R (Kd.int .i64) 3 w' base Tt (rowV g cap xs.length) (if giveB xs i j m then moved xs i j m else xs) ∧ Below base w w'
set_option maxRecDepth 100000 in
set_option maxHeartbeats 4000000 in
theorem giveDo_calls (g cap base : Nat) (xs : List Int) (i j : Nat) (m : Int) (w : World) (hR : Kd.R (Kd.int .i64) 3 w base Tt (rowV g cap xs.length) xs) (hi : i < xs.length) (hj : j < xs.length) (hl : xs.length ≤ 6)
    (hx : ∀ x ∈ xs, 0 ≤ x ∧ x ≤ 20) (hm : 0 ≤ m ∧ m ≤ 1000) (hbs : base ≤ w.heap.size) :
    Calls Tryz.prog 104 #[.agg #[.int .i64 i, .int .i64 j, .int .i64 m], .slice (some ⟨g, 0, none⟩) xs.length cap] w (GiveR g cap base xs i j m w) := by
  have ai := Kd.R_cell (0 : Int) hR (i : Int) (by omega) (by omega)
  have aj := Kd.R_cell (0 : Int) hR (j : Int) (by omega) (by omega)
  rw [Int.toNat_natCast] at ai aj
  have pi := hx _ (getD_mem (z := (0 : Int)) hi)
  have pj := hx _ (getD_mem (z := (0 : Int)) hj)
  have hbg : base ≤ g := Kd.R_base hR g (by simp [rowV, Value.ownBlock])
  have ci : w.cell? ⟨g, i, none⟩ = some (.int .i64 (xs.getD i 0)) := ai.1
  have cj : w.cell? ⟨g, j, none⟩ = some (.int .i64 (xs.getD j 0)) := aj.1
  have hgl := World.block_lt_of_cell? w _ ci
  have HR := Aside0.mk hR
  have HB := Aside0.mk (show Below w.heap.size w (w.alloc (.cells #[.int .i64 i, .int .i64 j, .int .i64 m] 113)) from (Below.refl _ _).alloc (Nat.le_refl _) _)
  have HXX := Aside0.mk hx
  have HBS := Aside0.mk (And.intro hbs hbg)
  have CI := Aside0.mk (And.intro ci (And.intro ai.2 (And.intro cj aj.2)))
  have HG := Aside0.mk (show giveB xs i j m ↔ (i ≠ j ∧ 1 ≤ m ∧ m ≤ 20 ∧ 2 * m ≤ xs.getD i 0 - xs.getD j 0) from Iff.rfl)
  have HM := Aside0.mk (show moved xs i j m = (xs.set i (xs.getD i 0 - m)).set j (xs.getD j 0 + m) from rfl)
  have HQ := Aside0.mk (fun (u : Int) (h : i ≠ j) => (show (xs.set i u).getD j 0 = xs.getD j 0 by rw [List.getD_eq_getElem?_getD, List.getD_eq_getElem?_getD, List.getElem?_set_ne h]))
  have e1 : ¬ (i : Int) < 0 := by omega
  have e2 : ¬ (xs.length : Int) ≤ (i : Int) := by omega
  have e3 : ¬ (j : Int) < 0 := by omega
  have e4 : ¬ (xs.length : Int) ≤ (j : Int) := by omega
  have e1' : (0 : Int) ≤ (i : Int) := by omega
  have e2' : (i : Int) < (xs.length : Int) := by omega
  have e3' : (0 : Int) ≤ (j : Int) := by omega
  have e4' : (j : Int) < (xs.length : Int) := by omega
  have BI : ∀ (W : World), Below w.heap.size w W → W.cell? ⟨g, i, none⟩ = some (.int .i64 (xs.getD i 0)) := fun W hW => (hW.cell (p := ⟨g, i, none⟩) hgl).trans ci
  have BJ : ∀ (W : World), Below w.heap.size w W → W.cell? ⟨g, j, none⟩ = some (.int .i64 (xs.getD j 0)) := fun W hW => (hW.cell (p := ⟨g, j, none⟩) hgl).trans cj
  have ci1 := BI _ HB.out
  have cj1 := BJ _ HB.out
  have HBI := Aside0.mk BI
  have HBJ := Aside0.mk BJ
  clear hR hx ci cj ai aj BI BJ hbs hbg
  generalize xs.getD i 0 = p at pi ci1 HBI HG HM CI
  generalize xs.getD j 0 = q at pj cj1 HBJ HG HM CI HQ
  have n1 : ¬ xs.length ≤ i := by omega
  have n2 : ¬ xs.length ≤ j := by omega
  have b1 : decide ((i : Int) < 0) = false := decide_eq_false e1
  have b2 : decide ((xs.length : Int) ≤ (i : Int)) = false := decide_eq_false e2
  have b3 : decide ((j : Int) < 0) = false := decide_eq_false e3
  have b4 : decide ((xs.length : Int) ≤ (j : Int)) = false := decide_eq_false e4
  have b2' : decide (xs.length ≤ i) = false := decide_eq_false n1
  have b4' : decide (xs.length ≤ j) = false := decide_eq_false n2
  generalize hW0 : w.alloc (.cells #[.int .i64 i, .int .i64 j, .int .i64 m] 113) = w0 at ci1 cj1 HB
  have x0 : w0.cell? ⟨w.heap.size, 0, none⟩ = some (.int .i64 i) := by rw [← hW0]; simp
  have x1 : w0.cell? ⟨w.heap.size, 1, none⟩ = some (.int .i64 j) := by rw [← hW0]; simp
  have x2 : w0.cell? ⟨w.heap.size, 2, none⟩ = some (.int .i64 m) := by rw [← hW0]; simp
  have BX0 := Aside0.mk (show w0.heap[w.heap.size]? = some (.cells #[.int .i64 i, .int .i64 j, .int .i64 m] 113 (0, 0)) by rw [← hW0]; exact blk_new _ _)
  by_cases t1 : i = j
  · have N := Aside0.mk (show ¬ giveB xs i j m from fun h => (HG.out.1 h).1 t1)
    have t1b : ((i : Int) == (j : Int)) = true := by simp [t1]
    have t1c : (i == j) = true := by simp [t1]
    clear t1
    go_enter Tryz.func104, Tryz.ntmps104
    go_wp2_with (fail)
    clear hW0
    go_quiet (fail)
    go_wp2
    go_ret
    exact ⟨by rw [decide_eq_false N.out]; rfl, by rw [if_neg N.out]; exact Kd.R_below HR.out (pw_below_drewN HB.out _), (pw_below_drewN HB.out _).mono HBS.out.1⟩
  · have t1b : ((i : Int) == (j : Int)) = false := by simp; omega
    have t1c : (i == j) = false := by simp [t1]
    have s1 : IntKind.i64.wrap (p - q) = p - q := IntWalk.i64_in _ (by omega)
    have s2 : IntKind.i64.wrap (2 * m) = 2 * m := IntWalk.i64_in _ (by omega)
    by_cases t2 : m < 1
    · have t2b : decide (m < 1) = true := decide_eq_true t2
      have N := Aside0.mk (show ¬ giveB xs i j m from fun h => by have := HG.out.1 h; omega)
      go_enter Tryz.func104, Tryz.ntmps104
      go_wp2_with (fail)
      clear hW0
      go_quiet (fail)
      go_wp2
      go_ret
      exact ⟨by rw [decide_eq_false N.out]; rfl, by rw [if_neg N.out]; exact Kd.R_below HR.out (pw_below_drewN HB.out _), (pw_below_drewN HB.out _).mono HBS.out.1⟩
    · have t2b : decide (m < 1) = false := decide_eq_false t2
      by_cases t3 : 20 < m
      · have t3b : decide (20 < m) = true := decide_eq_true t3
        have N := Aside0.mk (show ¬ giveB xs i j m from fun h => by have := HG.out.1 h; omega)
        go_enter Tryz.func104, Tryz.ntmps104
        go_wp2_with (fail)
        clear hW0
        go_quiet (fail)
        go_wp2
        go_ret
        exact ⟨by rw [decide_eq_false N.out]; rfl, by rw [if_neg N.out]; exact Kd.R_below HR.out (pw_below_drewN HB.out _), (pw_below_drewN HB.out _).mono HBS.out.1⟩
      · have t3b : decide (20 < m) = false := decide_eq_false t3
        by_cases t4 : p - q < 2 * m
        · have t4b : decide (p - q < 2 * m) = true := decide_eq_true t4
          have N := Aside0.mk (show ¬ giveB xs i j m from fun h => by have := HG.out.1 h; omega)
          go_enter Tryz.func104, Tryz.ntmps104
          go_wp2_with (fail)
          clear hW0
          go_quiet (fail)
          go_wp2
          go_ret
          exact ⟨by rw [decide_eq_false N.out]; rfl, by rw [if_neg N.out]; exact Kd.R_below HR.out (pw_below_drewN HB.out _), (pw_below_drewN HB.out _).mono HBS.out.1⟩
        · have t4b : decide (p - q < 2 * m) = false := decide_eq_false t4
          have Y := Aside0.mk (show giveB xs i j m from HG.out.2 ⟨t1, by omega, by omega, by omega⟩)
          go_enter Tryz.func104, Tryz.ntmps104
          go_wp2_with (fail)
          clear hW0
          go_quiet (fail)
          have BW1 := Aside0.mk (show Below w.heap.size w (World.drewN w0 nq) from pw_below_drewN HB.out _)
          have y0 : (World.drewN w0 nq).cell? ⟨w.heap.size, 0, none⟩ = some (.int .i64 i) := x0
          have y1 : (World.drewN w0 nq).cell? ⟨w.heap.size, 1, none⟩ = some (.int .i64 j) := x1
          have y2 : (World.drewN w0 nq).cell? ⟨w.heap.size, 2, none⟩ = some (.int .i64 m) := x2
          have ri := HBI.out _ BW1.out
          have rf := (BW1.out.frozen (p := ⟨g, i, none⟩) hgl).trans CI.out.2.1
          have hbx1 : (World.drewN w0 nq).heap[w.heap.size]? = some (.cells #[.int .i64 i, .int .i64 j, .int .i64 m] 113 (0, 0)) := blk_drewN BX0.out _
          clear ci1 cj1 x0 x1 x2 s1 s2
          generalize World.drewN w0 nq = w1 at BW1 y0 y1 y2 ri rf hbx1
          have s3 : IntKind.i64.wrap (p - m) = p - m := IntWalk.i64_in _ (by omega)
          have BX1 := Aside0.mk hbx1
          have HR2 := Aside0.mk (Kd.R_drew (Kd.R_putn (Kd.R_below HR.out BW1.out) (i : Int) (p - m)))
          clear hbx1
          go_wp2_with (fail)
          go_region
          clear y0 y1 y2 ri rf s3
          have hne : w.heap.size ≠ g := by omega
          have BX2 := Aside0.mk (blk_drew (blk_far BX1.out (p := ⟨g, i, none⟩) hne (.int .i64 (p - m))))
          have BW2 := Aside0.mk (show Below base w (w1.setCell ⟨g, i, none⟩ (.int .i64 (p - m))).drew from below_drew ((BW1.out.mono HBS.out.1).setCell (p := ⟨g, i, none⟩) HBS.out.2 _))
          rw [Int.toNat_natCast] at HR2
          have aj2 := Kd.R_celln (0 : Int) HR2.out (j : Int) (by omega) (by omega)
          rw [Int.toNat_natCast] at aj2
          have hq2 : rdOf (0 : Int) (xs.set i (p - m)) (j : Int) = q := HQ.out (p - m) t1
          have cj2 := aj2.1
          rw [hq2] at cj2
          have fj2 := aj2.2
          clear aj2 hq2
          generalize (w1.setCell ⟨g, i, none⟩ (.int .i64 (p - m))).drew = w2 at HR2 BX2 BW2 cj2 fj2
          have y0 := (blk_cell BX2.out 0).trans rfl
          have y1 := (blk_cell BX2.out 1).trans rfl
          have y2 := (blk_cell BX2.out 2).trans rfl
          have s4 : IntKind.i64.wrap (q + m) = q + m := IntWalk.i64_in _ (by omega)
          have HR3 := Aside0.mk (Kd.R_drew (Kd.R_putn HR2.out (j : Int) (q + m)))
          go_wp2_with (fail)
          go_region
          go_wp2
          go_ret
          rw [Int.toNat_natCast] at HR3
          exact ⟨by rw [decide_eq_true Y.out]; rfl, by rw [if_pos Y.out, HM.out]; exact HR3.out, below_drew (BW2.out.setCell (p := ⟨g, j, none⟩) HBS.out.2 _)⟩
end Go.Proofs.YtccnfbjdpgmlhaaGreatDoor

namespace Go.Proofs.YtccnfbjdpgmlhaaGreatDoor
open Go.RowKit Go.Proofs.YtccnfbjdpgmlhaaGreatDoorW.PrintWords Go.Proofs.YtccnfbjdpgmlhaaGreatDoorW.PrintLast Go.Proofs.YtccnfbjdpgmlhaaGreatDoorW.PrintMore
set_option linter.unusedVariables false
set_option linter.unusedSimpArgs false

def inShare (xs : List Int) : Prop := ∀ x ∈ xs, 0 ≤ x ∧ x ≤ 20
def checkB (xs ys : List Int) (i j : Nat) (m : Int) : Bool := areB xs && areB ys && (decide (giveB xs i j m) && (moved xs i j m == ys))
def checkE (xs ys : List Int) : Int := if (areB xs && areB ys) = true then 0 else 2
theorem row_of_R {w : World} {b c base : Nat} {xs : List Int} (h : Kd.R (Kd.int .i64) 3 w base Tt (rowV b c xs.length) xs) {W : World} (hW : Below w.heap.size w W) : Row.At W xs.length ⟨b, c, xs⟩ := by
  refine ⟨rfl, fun j hj => ?_⟩
  have h1 := (Kd.R_cell (0 : Int) (Kd.R_below h hW) (j : Int) (by omega) (by have : j < xs.length := hj; omega)).1
  rw [Int.toNat_natCast] at h1
  rw [Nat.zero_add]
  exact h1
theorem row_cells {w : World} {b c base n : Nat} {xs : List Int} (h : Kd.R (Kd.int .i64) 3 w base Tt (rowV b c n) xs) (hn : xs.length = n) : ∀ j, j < xs.length → w.cell? ⟨b, 0 + j, none⟩ = some (.int .i64 (xs.getD j 0)) := by
  subst hn
  intro j hj
  have h1 := (Kd.R_cell (0 : Int) h (j : Int) (by omega) (by omega)).1
  rw [Int.toNat_natCast] at h1
  rw [Nat.zero_add]
  exact h1
theorem eq_rows (b1 c1 b2 c2 base1 base2 n : Nat) (xs ys : List Int) (w : World) (hx : xs.length = n) (hy : ys.length = n) (hn : n ≤ 1000)
    (h1 : Kd.R (Kd.int .i64) 3 w base1 Tt (rowV b1 c1 n) xs) (h2 : Kd.R (Kd.int .i64) 3 w base2 Tt (rowV b2 c2 n) ys) :
    Calls Tryz.prog 105 #[.slice (some ⟨b1, 0, none⟩) n c1, .slice (some ⟨b2, 0, none⟩) n c2] w fun e w' => e = .returned (.bool (xs == ys)) ∧ ∃ q, w' = w.drewN q := by
  refine (Tryz.slices_Equal_int b1 0 n c1 b2 0 n c2 xs ys w (by omega) (by omega) (by omega) (by omega) (row_cells h1 hx) (row_cells h2 hy)).mono (fun e w' h => ?_)
  have e1 : xs.take n = xs := List.take_of_length_le (by omega)
  have e2 : ys.take n = ys := List.take_of_length_le (by omega)
  rw [e1, e2] at h
  exact h
theorem moved_length (xs : List Int) (i j : Nat) (m : Int) : (moved xs i j m).length = xs.length := by simp [moved]
set_option maxRecDepth 100000 in
set_option maxHeartbeats 4000000 in
theorem check_calls (bx cx b' cy base g cg : Nat) (xs ys : List Int) (i j : Nat) (m : Int) (w : World) (hX : Kd.R (Kd.int .i64) 3 w base Tt (rowV bx cx xs.length) xs) (hY : Kd.R (Kd.int .i64) 3 w base Tt (rowV b' cy xs.length) ys)
    (hl : ys.length = xs.length) (hn : xs.length ≤ 6) (hi : i < xs.length) (hj : j < xs.length) (hx : inShare xs) (hm : 0 ≤ m ∧ m ≤ 1000)
    (hg0 : w.cell? ⟨g, 0, none⟩ = some (.int .i64 i)) (hg1 : w.cell? ⟨g, 1, none⟩ = some (.int .i64 j)) (hg2 : w.cell? ⟨g, 2, none⟩ = some (.int .i64 m)) :
    Calls Tryz.prog 76 #[.slice (some ⟨bx, 0, none⟩) xs.length cx, .slice (some ⟨b', 0, none⟩) xs.length cy, .slice (some ⟨g, 0, none⟩) 1 cg] w fun e w' => e = .returned (.tuple #[.bool (checkB xs ys i j m), .int .i64 (checkE xs ys)]) ∧ Below w.heap.size w w' := by
  have hB1 : Below w.heap.size w (w.alloc (.cells #[.slice (some ⟨bx, 0, none⟩) xs.length cx, .slice (some ⟨b', 0, none⟩) xs.length cy] 37)) := (Below.refl _ _).alloc (Nat.le_refl _) _
  have rX := row_of_R hX hB1
  have hY' : Kd.R (Kd.int .i64) 3 w base Tt (rowV b' cy ys.length) ys := by rw [hl]; exact hY
  have rY := row_of_R hY' hB1
  rw [hl] at rY
  have hare := are_calls w.heap.size 2 xs.length [⟨bx, cx, xs⟩, ⟨b', cy, ys⟩] _ (by omega) hn (by simp) (by simp) (fun k hk => by
    have hk2 : k < 2 := hk
    rcases (show k = 0 ∨ k = 1 by omega) with rfl | rfl
    · exact (blk_cell (blk_new w (.cells #[.slice (some ⟨bx, 0, none⟩) xs.length cx, .slice (some ⟨b', 0, none⟩) xs.length cy] 37)) 0).trans rfl
    · have e := (blk_cell (blk_new w (.cells #[.slice (some ⟨bx, 0, none⟩) xs.length cx, .slice (some ⟨b', 0, none⟩) xs.length cy] 37)) 1)
      exact e.trans (by show some (Value.slice (some ⟨b', 0, none⟩) xs.length cy) = some (.slice (some ⟨b', 0, none⟩) ys.length cy); rw [hl])) (fun r hr => by
    rcases List.mem_cons.mp hr with rfl | hr
    · exact rX
    · rw [List.mem_singleton.mp hr]; exact rY)
  have hA : Calls Tryz.prog 103 #[.slice (some ⟨w.heap.size, 0, none⟩) 2 2] (w.alloc (.cells #[.slice (some ⟨bx, 0, none⟩) xs.length cx, .slice (some ⟨b', 0, none⟩) xs.length cy] 37)) (fun e w' => e = .returned (.bool (areB xs && areB ys)) ∧ (w.alloc (.cells #[.slice (some ⟨bx, 0, none⟩) xs.length cx, .slice (some ⟨b', 0, none⟩) xs.length cy] 37)) = w') :=
    hare.mono (fun e w' h => ⟨by rw [h.1]; simp, h.2⟩)
  have HB1 := Aside0.mk hB1
  have HX := Aside0.mk hX
  have HY := Aside0.mk hY'
  have HI := Aside0.mk hx
  clear hare rX rY hX hY hY' hB1 hx
  cases ea : (areB xs && areB ys) with
  | false =>
    have E := Aside0.mk (show checkB xs ys i j m = false ∧ checkE xs ys = 2 by simp only [checkB, checkE, ea]; exact ⟨by simp, by simp⟩)
    rw [ea] at hA
    clear ea
    go_enter Tryz.func76, Tryz.ntmps76
    go_wp2_with (go_at_call 103; (with_reducible refine hA.mono ?_); rintro e w' ⟨rfl, rfl⟩)
    go_ret2
    exact ⟨by rw [E.out.1, E.out.2]; rfl, HB1.out⟩
  | true =>
    rw [ea] at hA
    have E0 := Aside0.mk (show checkE xs ys = 0 by simp only [checkE, ea]; rfl)
    have EB := Aside0.mk (show checkB xs ys i j m = (decide (giveB xs i j m) && (moved xs i j m == ys)) by simp only [checkB, ea]; rfl)
    have hcl := fun (W : World) (hW : Below w.heap.size w W) => clone_int (.slice (some ⟨bx, 0, none⟩) xs.length cx) xs base W (Kd.R_below HX.out hW) (by omega)
    have HC := Aside0.mk hcl
    have G0 := Aside0.mk (And.intro hg0 (And.intro hg1 hg2))
    have hgl : g < w.heap.size := World.block_lt_of_cell? w _ hg0
    clear ea hcl hg0 hg1 hg2
    go_enter Tryz.func76, Tryz.ntmps76
    go_wp2_with (first
      | (go_at_call 103; (with_reducible refine hA.mono ?_); rintro e w' ⟨rfl, rfl⟩)
      | (go_at_call 72; (with_reducible refine (HC.out _ HB1.out).mono ?_); rintro e w2 ⟨v2, rfl, hR2, hb2⟩; have HB2 := Aside0.mk (HB1.out.trans (hb2.mono HB1.out.size)); obtain ⟨g', cap', rfl, hgg, hgl', _⟩ := Kd.R_form hR2 (by omega); have HR2 := Aside0.mk (Kd.R_lower hR2 HB1.out.size); clear hR2 hb2))
    go_loopg [20] 1 (fun gg s20 W => ∃ (k : Nat) (zs : List Int), s20 = .int .i64 k ∧ k ≤ 1 ∧ Aside0 (1 - k ≤ gg) ∧ Aside0 ((k = 0 ∧ zs = xs) ∨ (k = 1 ∧ giveB xs i j m ∧ zs = moved xs i j m)) ∧ Aside0 (Kd.R (Kd.int .i64) 3 W w.heap.size Tt (rowV g' cap' xs.length) zs) ∧ Aside0 (Below w.heap.size w W))
    case atStart => exact ⟨0, xs, rfl, by omega, ⟨by omega⟩, ⟨.inl ⟨rfl, rfl⟩⟩, HR2, HB2⟩
    case round =>
      obtain ⟨k, zs, rfl, hk, hgk, HK, HR, BW⟩ := hrel
      rcases Nat.lt_or_ge k 1 with hlt | hge
      · obtain rfl : k = 0 := by omega
        have ez := Aside0.mk (show zs = xs from by rcases HK.out with h | h; exact h.2; exact absurd h.1 (by decide))
        have z0 := (BW.out.cell (p := ⟨g, 0, none⟩) hgl).trans G0.out.1
        have z1 := (BW.out.cell (p := ⟨g, 1, none⟩) hgl).trans G0.out.2.1
        have z2 := (BW.out.cell (p := ⟨g, 2, none⟩) hgl).trans G0.out.2.2
        have hgd := Aside0.mk (fun (W : World) (hW : Below wr.heap.size wr W) => giveDo_calls g' cap' w.heap.size xs i j m W (by have := Kd.R_below HR.out hW; rw [ez.out] at this; exact this) hi hj hn HI.out hm (Nat.le_trans BW.out.size hW.size))
        have hba := Aside0.mk ((Below.refl wr.heap.size wr).alloc (Nat.le_refl _) (.cells #[.int .i64 i, .int .i64 j, .int .i64 m] 113))
        by_cases hgb : giveB xs i j m
        · have D := Aside0.mk (show decide (giveB xs i j m) = true from decide_eq_true hgb)
          have HGB := Aside0.mk hgb
          clear hgb
          go_wp2_with (go_at_call 104; (with_reducible refine (hgd.out _ hba.out).mono ?_); rintro e w3 ⟨he, hR3, hb3⟩; rw [D.out] at he; subst he; rw [if_pos HGB.out] at hR3; have HR3 := Aside0.mk hR3; have HB3 := Aside0.mk ((BW.out.trans (hba.out.mono BW.out.size)).trans hb3); clear hR3 hb3)
          go_roundg 0
          case measure => have := hgk.out; omega
          case rel => exact ⟨1, moved xs i j m, rfl, by omega, ⟨by omega⟩, ⟨.inr ⟨rfl, HGB.out, rfl⟩⟩, HR3, HB3⟩
        · have D := Aside0.mk (show decide (giveB xs i j m) = false from decide_eq_false hgb)
          have E := Aside0.mk (show checkB xs ys i j m = false by rw [EB.out, D.out]; rfl)
          clear hgb
          go_wp2_with (go_at_call 104; (with_reducible refine (hgd.out _ hba.out).mono ?_); rintro e w3 ⟨he, hR3, hb3⟩; rw [D.out] at he; subst he; have HB3 := Aside0.mk ((BW.out.trans (hba.out.mono BW.out.size)).trans hb3); clear hR3 hb3)
          go_ret2
          exact ⟨by rw [E.out, E0.out]; rfl, HB3.out⟩
      · obtain rfl : k = 1 := by omega
        have ez := Aside0.mk (show giveB xs i j m ∧ zs = moved xs i j m from by rcases HK.out with h | h; exact absurd h.1 (by decide); exact h.2)
        have hzl : zs.length = xs.length := by rw [ez.out.2, moved_length]
        have E := Aside0.mk (show checkB xs ys i j m = (zs == ys) by rw [EB.out, decide_eq_true ez.out.1, ez.out.2]; rfl)
        have hYW := Kd.R_below HY.out BW.out
        rw [hl] at hYW
        have hq := Aside0.mk (eq_rows g' cap' b' cy w.heap.size base xs.length zs ys wr hzl hl (by omega) HR.out hYW)
        clear hzl hYW
        go_wp2_with (go_at_call 105; (with_reducible refine hq.out.mono ?_); rintro e w3 ⟨rfl, q, rfl⟩)
        go_ret2
        exact ⟨by rw [E.out, E0.out]; rfl, pw_below_drewN BW.out _⟩
end Go.Proofs.YtccnfbjdpgmlhaaGreatDoor

namespace Go.Proofs.YtccnfbjdpgmlhaaGreatDoor
open Go.RowKit Go.Proofs.YtccnfbjdpgmlhaaGreatDoorW.PrintWords Go.Proofs.YtccnfbjdpgmlhaaGreatDoorW.PrintLast Go.Proofs.YtccnfbjdpgmlhaaGreatDoorW.PrintMore
set_option linter.unusedVariables false
set_option linter.unusedSimpArgs false

def name1 (ns : List ByteArray) : ByteArray := ns.getD 1 ByteArray.empty
def afterL (xs : List Int) (i j : Nat) (m : Int) : List Int := (xs.set i (xs.getD i 0 - m)).set j ((xs.set i (xs.getD i 0 - m)).getD j 0 + m)
theorem afterL_length (xs : List Int) (i j : Nat) (m : Int) : (afterL xs i j m).length = xs.length := by simp [afterL]
def stepStocks (s : St) (ys : List Int) : Nat → St
  | 0 => s
  | k + 1 => (stepStocks s ys k).setStock k (ys.getD k 0)
theorem setStock_length (s : St) (i : Nat) (u : Int) : (s.setStock i u).leaves.length = s.leaves.length := by simp [St.setStock]
theorem stepStocks_length (s : St) (ys : List Int) : ∀ k, (stepStocks s ys k).leaves.length = s.leaves.length
  | 0 => rfl
  | k + 1 => by rw [stepStocks, setStock_length, stepStocks_length s ys k]
def giveG (s : St) (i j m : Int) : St × Int :=
  if i < 0 ∨ j < 0 then (s, 4)
  else if checkB (stocksF s) (afterL (stocksF s) i.toNat j.toNat m) i.toNat j.toNat m = true then (stepStocks s (afterL (stocksF s) i.toNat j.toNat m) s.leaves.length, 0)
  else (s, 5)
def giveF (s : St) (ns : List ByteArray) (ds : List Int) : St × Int := giveG s (findF s (name0 ns)) (findF s (name1 ns)) (num0 ds)
theorem checkE_of {xs ys : List Int} {i j : Nat} {m : Int} (h : checkB xs ys i j m = true) : checkE xs ys = 0 := by
  unfold checkB at h
  have := (Bool.and_eq_true_iff.mp h).1
  unfold checkE; rw [if_pos this]
theorem inShare_of {s : St} (hN : Nums s) : inShare (stocksF s) := by
  intro x hx
  obtain ⟨k, hk, rfl⟩ := List.getElem_of_mem hx
  have hk2 : k < s.leaves.length := by rw [stocksF_length] at hk; exact hk
  have h := hN k hk2
  rw [← stocksF_getD s k hk2, List.getD_eq_getElem?_getD, List.getElem?_eq_getElem hk] at h
  exact h
theorem StAt.leaf_blk {w : World} {base b : Nat} {s : St} (h : StAt w base b s) (hp : 0 < s.leaves.length) :
    ∃ g cells cap, w.cell? ⟨b, 0, none⟩ = some (.slice (some ⟨g, 0, none⟩) s.leaves.length cap) ∧ w.heap[g]? = some (.cells cells 96 (0, 0)) := by
  obtain ⟨u1, u2, u3, hb, hbase, h1, h2, h3⟩ := h.parts
  have c0 := blk_cell hb 0
  simp only [List.getElem?_toArray, List.getElem?_cons_zero] at c0
  obtain ⟨g, cap, rfl, hg, hgl, cells, hcs⟩ := Kd.R_form h1 hp
  exact ⟨g, cells, cap, c0, hcs⟩
def giveS (w : World) (an ad : Addr) (n0 n1 : ByteArray) (m : Int) (ln kn ld kd : Nat) (W : World) : Prop :=
  W.cell? ⟨w.heap.size, 0, none⟩ = some (.slice (some an) ln kn) ∧ W.cell? ⟨w.heap.size, 1, none⟩ = some (.slice (some ad) ld kd) ∧ W.cell? an = some (.string n0) ∧ W.cell? ⟨an.block, an.off + 1, none⟩ = some (.string n1) ∧ W.cell? ad = some (.int .i64 m)
set_option maxRecDepth 100000 in
set_option maxHeartbeats 4000000 in
theorem give_calls (b base : Nat) (s : St) (vn vd : Value) (ns : List ByteArray) (ds : List Int) (w : World) (h : StAt w base b s) (hs : Sized s) (hN : Nums s) (hL : LineAt w vn vd ns ds) (hn : 2 ≤ ns.length) (hd : 1 ≤ ds.length)
    (hm : 0 ≤ num0 ds ∧ num0 ds ≤ 1000) (hbs : base ≤ w.heap.size) :
    Calls Tryz.prog 43 #[.pointer (some ⟨b, 0, none⟩), .agg #[vn, vd]] w (ActR (giveF s ns ds) b base w) := by
  obtain ⟨an, kn', rfl, hxn⟩ := hL.names (by omega)
  have xn : w.cell? an = some (.string (name0 ns)) := hxn 0 (by omega)
  have yn : w.cell? (an.add 1) = some (.string (name1 ns)) := hxn 1 (by omega)
  obtain ⟨ad, kd', rfl, hxd⟩ := hL.numbers (by omega)
  have xd : w.cell? ad = some (.int .i64 (num0 ds)) := hxd 0 (by omega)
  have ean : an.add 1 = ⟨an.block, an.off + 1, none⟩ := by simp [Addr.add]
  rw [ean] at yn
  have hB : Below w.heap.size w (w.alloc (.cells #[.slice (some an) ns.length kn', .slice (some ad) ds.length kd'] 82)) := (Below.refl _ _).alloc (Nat.le_refl _) _
  have HS0 : giveS w an ad (name0 ns) (name1 ns) (num0 ds) ns.length kn' ds.length kd' (w.alloc (.cells #[.slice (some an) ns.length kn', .slice (some ad) ds.length kd'] 82)) :=
    ⟨by simp, by simp, (hB.cell (World.block_lt_of_cell? w _ xn)).trans xn, (hB.cell (World.block_lt_of_cell? w _ yn)).trans yn, (hB.cell (World.block_lt_of_cell? w _ xd)).trans xd⟩
  have HK := Aside0.mk (show ∀ W, Below (w.alloc (.cells #[.slice (some an) ns.length kn', .slice (some ad) ds.length kd'] 82)).heap.size (w.alloc (.cells #[.slice (some an) ns.length kn', .slice (some ad) ds.length kd'] 82)) W → giveS w an ad (name0 ns) (name1 ns) (num0 ds) ns.length kn' ds.length kd' W from fun W hW =>
    ⟨(hW.cell (World.block_lt_of_cell? _ _ HS0.1)).trans HS0.1, (hW.cell (World.block_lt_of_cell? _ _ HS0.2.1)).trans HS0.2.1, (hW.cell (World.block_lt_of_cell? _ _ HS0.2.2.1)).trans HS0.2.2.1, (hW.cell (World.block_lt_of_cell? _ _ HS0.2.2.2.1)).trans HS0.2.2.2.1, (hW.cell (World.block_lt_of_cell? _ _ HS0.2.2.2.2)).trans HS0.2.2.2.2⟩)
  have hf1 := Aside0.mk (fun (W : World) (hW : Below w.heap.size w W) => find_calls b base s (name0 ns) W (h.below hW) hs)
  have hf2 := Aside0.mk (fun (W : World) (hW : Below w.heap.size w W) => find_calls b base s (name1 ns) W (h.below hW) hs)
  have hst := Aside0.mk (fun (W : World) (hW : Below w.heap.size w W) => stocks_calls b base s W (h.below hW) hs)
  have HA := Aside0.mk (And.intro h (And.intro hs (And.intro hbs hN)))
  have HB := Aside0.mk hB
  have HF := Aside0.mk (show giveF s ns ds = giveG s (findF s (name0 ns)) (findF s (name1 ns)) (num0 ds) from rfl)
  have hl1 := findF_lt s (name0 ns)
  have hl2 := findF_lt s (name1 ns)
  have hn0 : (0 : Int) < (ns.length : Int) := by omega
  have hn1 : (1 : Int) < (ns.length : Int) := by omega
  have hn00 : 0 < ns.length := by omega
  have hn01 : 1 < ns.length := by omega
  have hd0 : (0 : Int) < (ds.length : Int) := by omega
  have hd00 : 0 < ds.length := by omega
  clear h hs hN hL hxn hxd xn yn xd ean hB HS0 hbs
  generalize name0 ns = nm0 at hf1 HK HF hl1
  generalize name1 ns = nm1 at hf2 HK HF hl2
  generalize num0 ds = m at hm HK HF
  generalize findF s nm0 = fi at hf1 HF hl1
  generalize findF s nm1 = fj at hf2 HF hl2
  go_enter Tryz.func43, Tryz.ntmps43
  go_wp2_with (fail)
  generalize w.alloc (.cells #[.slice (some an) ns.length kn', .slice (some ad) ds.length kd'] 82) = w0 at HB HK
  have K0 := HK.out _ (Below.refl _ _)
  unfold giveS at HK K0
  obtain ⟨k0, k1, k2, k3, k4⟩ := K0
  go_region_held3 (fun W => W.cell? ⟨w.heap.size, 0, none⟩ = some (.slice (some an) ns.length kn') ∧ W.cell? ⟨w.heap.size, 1, none⟩ = some (.slice (some ad) ds.length kd') ∧ W.cell? an = some (.string nm0) ∧ W.cell? ⟨an.block, an.off + 1, none⟩ = some (.string nm1) ∧ W.cell? ad = some (.int .i64 m))
    (first | exact ⟨k0, k1, k2, k3, k4⟩ | exact HK.out _ (Below.refl _ _) | exact HK.out _ (below_drew (Below.refl _ _)) | exact HK.out _ K2.out | exact HK.out _ (below_drew K2.out) | exact HK.out _ K1.out | exact HK.out _ (below_drew K1.out))
    (first
    | (go_at_call 74; (with_reducible refine (hf1.out _ (below_drew HB.out)).mono ?_); rintro e w1 ⟨rfl, hb1⟩; have K1 := Aside0.mk ((below_drew (Below.refl w0.heap.size w0)).trans hb1); have HB1 := Aside0.mk ((below_drew HB.out).trans (hb1.mono HB.out.size)); clear hb1)
    | (go_at_call 74; (with_reducible refine (hf2.out _ HB1.out).mono ?_); rintro e w2 ⟨rfl, hb2⟩; have K2 := Aside0.mk (K1.out.trans (hb2.mono K1.out.size)); have HB2 := Aside0.mk (HB1.out.trans (hb2.mono HB1.out.size)); clear hb2))
  clear k0 k1 k2 k3 k4
  by_cases t1 : fi < 0
  · have E := Aside0.mk (show giveF s ns ds = (s, 4) by rw [HF.out]; unfold giveG; rw [if_pos (.inl t1)])
    go_wp2
    go_ret
    exact ⟨by rw [E.out]; rfl, by rw [E.out]; exact HA.out.1.below HB2.out, HB2.out.mono HA.out.2.2.1⟩
  by_cases t2 : fj < 0
  · have E := Aside0.mk (show giveF s ns ds = (s, 4) by rw [HF.out]; unfold giveG; rw [if_pos (.inr t2)])
    go_wp2
    go_ret
    exact ⟨by rw [E.out]; rfl, by rw [E.out]; exact HA.out.1.below HB2.out, HB2.out.mono HA.out.2.2.1⟩
  obtain ⟨i, rfl⟩ : ∃ i : Nat, fi = (i : Int) := ⟨fi.toNat, by omega⟩
  obtain ⟨j, rfl⟩ : ∃ j : Nat, fj = (j : Int) := ⟨fj.toNat, by omega⟩
  have hlen := stocksF_length s
  have hsh := Aside0.mk (inShare_of HA.out.2.2.2)
  have hsz := HA.out.2.1.leaves
  have HF2 := Aside0.mk (show giveF s ns ds = if checkB (stocksF s) (afterL (stocksF s) i j m) i j m = true then (stepStocks s (afterL (stocksF s) i j m) s.leaves.length, 0) else (s, 5) by
    rw [HF.out]; unfold giveG; rw [if_neg (fun h => h.elim t1 t2), Int.toNat_natCast, Int.toNat_natCast])
  generalize stocksF s = xs at hst hlen hsh HF2
  have hi : i < xs.length := by omega
  have hj : j < xs.length := by omega
  have hx6 : xs.length ≤ 6 := by omega
  have HLEN := Aside0.mk hlen
  have pi := hsh.out _ (getD_mem (z := (0 : Int)) hi)
  have pj := hsh.out _ (getD_mem (z := (0 : Int)) hj)
  have HAL := Aside0.mk (show afterL xs i j m = (xs.set i (xs.getD i 0 - m)).set j ((xs.set i (xs.getD i 0 - m)).getD j 0 + m) from rfl)
  have hq : 0 ≤ (xs.set i (xs.getD i 0 - m)).getD j 0 + 1000 ∧ (xs.set i (xs.getD i 0 - m)).getD j 0 ≤ 20 := by
    rw [List.getD_eq_getElem?_getD, List.getElem?_set]
    by_cases hij : i = j
    · rw [if_pos hij, if_pos hi]; simp only [Option.getD_some]; omega
    · rw [if_neg hij, ← List.getD_eq_getElem?_getD]; omega
  have hsl : (xs.set i (xs.getD i 0 - m)).length = xs.length := List.length_set
  have HSL := Aside0.mk (fun p => (show (xs.set i (p - m)).length = xs.length from List.length_set))
  clear HF hlen hl1 hl2 hsl
  obtain ⟨p, HP⟩ : ∃ p, Aside0 (xs.getD i 0 = p) := ⟨_, ⟨rfl⟩⟩
  rw [HP.out] at pi hq
  obtain ⟨q, HQ⟩ : ∃ q, Aside0 ((xs.set i (p - m)).getD j 0 = q) := ⟨_, ⟨rfl⟩⟩
  rw [HQ.out] at hq
  have HAL2 := Aside0.mk (show afterL xs i j m = (xs.set i (p - m)).set j (q + m) by rw [HAL.out, HP.out, HQ.out])
  clear HAL
  go_upto_region 7 with (first
    | (go_at_call 75; (with_reducible refine (hst.out _ HB2.out).mono ?_); rintro e w3 ⟨v3, rfl, hR3, hb3⟩; obtain ⟨g3, c3, rfl, hg3, hgl3, _⟩ := Kd.R_form hR3 (by omega); have HR3 := Aside0.mk (Kd.R_lower hR3 HB2.out.size); have HB3 := Aside0.mk (HB2.out.trans (hb3.mono HB2.out.size)); clear hR3 hb3 hg3)
    | (go_at_call 72; (with_reducible refine (clone_int _ xs w.heap.size _ HR3.out (by omega)).mono ?_); rintro e w4 ⟨v4, rfl, hR4, hb4⟩; obtain ⟨g4, c4, rfl, hg4, hgl4, _⟩ := Kd.R_form hR4 (by omega); have ci := Kd.R_cell (0 : Int) hR4 (i : Int) (by omega) (by omega); rw [Int.toNat_natCast] at ci; have ci1 : w4.cell? ⟨g4, i, none⟩ = some (.int .i64 p) := by { rw [← HP.out]; exact ci.1 }; have ci2 := ci.2; have hX34 := Aside0.mk (Kd.R_below HR3.out hb4); have HR4 := Aside0.mk (show Kd.R (Kd.int .i64) 3 w4 w3.heap.size Tt (.slice (some ⟨g4, 0, none⟩) xs.length c4) xs from hR4); have HB4 := Aside0.mk (HB3.out.trans (hb4.mono HB3.out.size)); have HB34 := Aside0.mk hb4; clear ci hR4 hb4))
  have HR5 := Aside0.mk (Kd.R_putn HR4.out (i : Int) (p - m))
  have HB35 := Aside0.mk (HB34.out.setCell (p := ⟨g4, i, none⟩) hg4 (.int .i64 (p - m)))
  rw [Int.toNat_natCast] at HR5
  generalize hW5 : w4.setCell ⟨g4, i, none⟩ (.int .i64 (p - m)) = w5 at HR5 HB35
  clear hW5 ci1 ci2
  have cj := Kd.R_celln (0 : Int) HR5.out (j : Int) (by omega) (by omega)
  rw [Int.toNat_natCast] at cj
  have cj1 : w5.cell? ⟨g4, j, none⟩ = some (.int .i64 q) := by { rw [← HQ.out]; exact cj.1 }
  have cj2 := cj.2
  have HR6 := Aside0.mk (Kd.R_putn HR5.out (j : Int) (q + m))
  have HB36 := Aside0.mk (HB35.out.setCell (p := ⟨g4, j, none⟩) hg4 (.int .i64 (q + m)))
  rw [Int.toNat_natCast, ← HAL2.out] at HR6
  clear cj
  go_upto_region 8 with (fail)
  generalize hW6 : w5.setCell ⟨g4, j, none⟩ (.int .i64 (q + m)) = w6 at HR6 HB36
  clear hW6 cj1 cj2 HR5 HB35
  have hyl := afterL_length xs i j m
  have HY := Aside0.mk hyl
  generalize afterL xs i j m = ys at HR6 HF2 hyl HY
  have hcg := Aside0.mk (fun (W : World) (hW : Below w6.heap.size w6 W) (g0 : W.cell? ⟨w6.heap.size, 0, none⟩ = some (.int .i64 i)) (g1 : W.cell? ⟨w6.heap.size, 1, none⟩ = some (.int .i64 j)) (g2 : W.cell? ⟨w6.heap.size, 2, none⟩ = some (.int .i64 m)) =>
    check_calls g3 c3 g4 c4 w.heap.size w6.heap.size 1 xs ys i j m W (Kd.R_below HR3.out (HB36.out.trans (hW.mono HB36.out.size))) (Kd.R_lower (Kd.R_below HR6.out hW) HB3.out.size) hyl hx6 hi hj hsh.out hm g0 g1 g2)
  have hcg2 := Aside0.mk (hcg.out (w6.alloc (.cells #[.int .i64 i, .int .i64 j, .int .i64 m] 113)) ((Below.refl _ _).alloc (Nat.le_refl _) _) (by simp) (by simp) (by simp))
  have HB6 := Aside0.mk (HB3.out.trans (HB36.out.mono HB3.out.size))
  clear hyl hcg
  cases hcb : checkB xs ys i j m with
  | false =>
    have E := Aside0.mk (show giveF s ns ds = (s, 5) by rw [HF2.out, hcb]; rfl)
    rw [hcb] at hcg2
    generalize checkE xs ys = ce at hcg2
    clear hcb
    go_wp2_with (go_at_call 76; (with_reducible refine hcg2.out.mono ?_); rintro e w7 ⟨rfl, hb7⟩; have HB7 := Aside0.mk (HB6.out.trans (((Below.refl w6.heap.size w6).alloc (Nat.le_refl _) _).trans (hb7.mono (by simp)) |>.mono HB6.out.size)); clear hb7)
    go_ret
    exact ⟨by rw [E.out]; rfl, by rw [E.out]; exact HA.out.1.below HB7.out, HB7.out.mono HA.out.2.2.1⟩
  | true =>
    have E := Aside0.mk (show giveF s ns ds = (stepStocks s ys s.leaves.length, 0) by rw [HF2.out, hcb]; rfl)
    rw [hcb, checkE_of hcb] at hcg2
    clear hcb
    go_wp2_with (go_at_call 76; (with_reducible refine hcg2.out.mono ?_); rintro e w7 ⟨rfl, hb7⟩; have HB67 := Aside0.mk (((Below.refl w6.heap.size w6).alloc (Nat.le_refl _) (.cells #[.int .i64 i, .int .i64 j, .int .i64 m] 113)).trans (hb7.mono (by simp))); have HB7 := Aside0.mk (HB6.out.trans (HB67.out.mono HB6.out.size)); clear hb7)
    have HR7 := Aside0.mk (Kd.R_lower (Kd.R_below HR6.out HB67.out) HB3.out.size)
    have HS7 := Aside0.mk (HA.out.1.below HB7.out)
    go_loopg [73] xs.length (fun gg s73 W => ∃ (k : Nat), s73 = .int .i64 k ∧ k ≤ xs.length ∧ Aside0 (xs.length - k ≤ gg) ∧ Aside0 (StAt W base b (stepStocks s ys k)) ∧ Aside0 (Kd.R (Kd.int .i64) 3 W w.heap.size Tt (.slice (some ⟨g4, 0, none⟩) xs.length c4) ys) ∧ Aside0 (Below base w W))
    case atStart => exact ⟨0, rfl, Nat.zero_le _, ⟨by omega⟩, HS7, HR7, ⟨HB7.out.mono HA.out.2.2.1⟩⟩
    case round =>
      obtain ⟨k, rfl, hk, hgk, HS, HR, BW⟩ := hrel
      rcases Nat.lt_or_ge k xs.length with hlt | hge
      · have hltz : (k : Int) < (xs.length : Int) := by omega
        have hk0 : (0 : Int) ≤ (k : Int) := by omega
        have ck := Kd.R_celln (0 : Int) HR.out (k : Int) (by omega) (by omega)
        rw [Int.toNat_natCast] at ck
        have ck1 : wr.cell? ⟨g4, k, none⟩ = some (.int .i64 (ys.getD k 0)) := ck.1
        have hll : (stepStocks s ys k).leaves.length = xs.length := by rw [stepStocks_length, HLEN.out]
        obtain ⟨g, cells, cap, hbc, hgb⟩ := HS.out.leaf_blk (by omega)
        rw [hll] at hbc
        obtain ⟨g', e1, x0, x1, xf, hgg⟩ := HS.out.leaf_at (by rw [hll]; exact hbc) k (by omega)
        obtain rfl : g = g' := by injection e1 with e1; injection e1
        have HS2 := Aside0.mk ((HS.out.setStock (by rw [hll]; exact hbc) k (by omega) (ys.getD k 0)).1)
        have HR2 := Aside0.mk (Kd.R_set HR.out hgb (by simp [Kd.int, Kd.scalar]) (k * 2 + 1) (.int .i64 (ys.getD k 0)))
        have hstep := Aside0.mk (show stepStocks s ys (k + 1) = (stepStocks s ys k).setStock k (ys.getD k 0) from rfl)
        generalize ys.getD k 0 = u at ck1 HS2 HR2 hstep
        generalize stock (stepStocks s ys k) k = u0 at x1
        clear ck e1 x0 hll hgb
        go_wp2
        go_roundg (xs.length - (k + 1))
        case measure => have := hgk.out; omega
        case rel => exact ⟨k + 1, by go_num, by omega, ⟨Nat.le_refl _⟩, ⟨by rw [hstep.out]; exact HS2.out⟩, HR2, ⟨BW.out.setCell (p := ⟨g, k * 2 + 1, none⟩) hgg _⟩⟩
      · have hltz : ¬ (k : Int) < (xs.length : Int) := by omega
        obtain rfl : k = xs.length := by omega
        go_wp2
        go_ret
        exact ⟨by rw [E.out]; rfl, by rw [E.out, ← HLEN.out]; exact HS.out, BW.out⟩
end Go.Proofs.YtccnfbjdpgmlhaaGreatDoor
