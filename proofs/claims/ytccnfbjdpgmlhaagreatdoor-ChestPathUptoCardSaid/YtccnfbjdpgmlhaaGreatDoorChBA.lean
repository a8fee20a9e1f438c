/- Walks of the chest's laws: played. -/
import Derived.Test.YtccnfbjdpgmlhaaGreatDoorChX
namespace Go.Proofs.YtccnfbjdpgmlhaaGreatDoor
open Go.RowKit Go.Proofs.YtccnfbjdpgmlhaaGreatDoorW.PrintWords Go.Proofs.YtccnfbjdpgmlhaaGreatDoorW.PrintLast Go.Proofs.YtccnfbjdpgmlhaaGreatDoorW.PrintMore
set_option linter.unusedVariables false
set_option linter.unusedSimpArgs false

/-- one act of a law's argument. -/
structure ActP where
  kind : Int
  n : Int
  m : Int
  line : ByteArray
instance : Inhabited ActP := ⟨⟨0, 0, 0, ByteArray.empty⟩⟩
def ActsAt (w : World) (A : Option Addr) (l : List ActP) : Prop := ∀ i, i < l.length → ∃ ad, A = some ad ∧
  w.cell? (ad.add (i * 4)) = some (.int .i64 (l.getD i default).kind) ∧ w.cell? ⟨(ad.add (i * 4)).block, (ad.add (i * 4)).off + 1, none⟩ = some (.int .i64 (l.getD i default).n) ∧
  w.cell? ⟨(ad.add (i * 4)).block, (ad.add (i * 4)).off + 2, none⟩ = some (.int .i64 (l.getD i default).m) ∧ w.cell? ⟨(ad.add (i * 4)).block, (ad.add (i * 4)).off + 3, none⟩ = some (.string (l.getD i default).line)
def ActsOk (l : List ActP) : Prop := ∀ x ∈ l, x.n ≤ 9223372036854775807 ∧ x.line.size ≤ 1048576
theorem ActsAt.below {w w' : World} {A : Option Addr} {l : List ActP} (h : ActsAt w A l) (hb : Below w.heap.size w w') : ActsAt w' A l := fun i hi => by
  obtain ⟨ad, e, h0, h1, h2, h3⟩ := h i hi
  exact ⟨ad, e, (hb.cell (World.block_lt_of_cell? w _ h0)).trans h0, (hb.cell (World.block_lt_of_cell? w _ h1)).trans h1, (hb.cell (World.block_lt_of_cell? w _ h2)).trans h2, (hb.cell (World.block_lt_of_cell? w _ h3)).trans h3⟩
/-- a chest of the call's own, as a law has it. -/
def Had (w0 : World) (c : Nat) (w : World) : Prop := ∃ v P a, ChestAt w w0.heap.size c v P a ∧ Inv P a ∧ Below w0.heap.size w0 w
def PlayedR (w : World) (e : Ending) (w' : World) : Prop := ∃ c, e = .returned (.pointer (some ⟨c, 0, none⟩)) ∧ Had w c w'
theorem had_do {w0 w1 : World} {c : Nat} {v : Value} {P : List Page} {a : Nat} {line r : ByteArray} {k : Int} {e : Ending} {w' : World} (hI : Inv P a) (hb : Below w0.heap.size w0 w1) (h : DoneR c v P a w0.heap.size line r k w1 e w') : Had w0 c w' := by
  obtain ⟨_, q, v', hC, hL, _⟩ := h
  exact ⟨v', _, _, hC, hI.do_ line q, hb.trans hL.1⟩
theorem had_go {w0 w1 : World} {c : Nat} {v : Value} {P : List Page} {a : Nat} {x : Int} {w' : World} (hI : Inv P a) (hb : Below w0.heap.size w0 w1)
    (h : ChestAt w' w0.heap.size c v P (if inP P.length x = true then x.toNat else a) ∧ Left w1 w0.heap.size c v w') : Had w0 c w' := by
  refine ⟨v, P, _, h.1, hI.go ?_, hb.trans h.2.1⟩
  split
  · rename_i hi
    obtain ⟨m, rfl, hm⟩ := inP_nat hi
    rw [Int.toNat_natCast]; exact hm
  · exact hI.at_
theorem par_in {P : List Page} {a : Nat} (hI : Inv P a) (k : Nat) (hk : k < P.length) : par P k < P.length := hI.book.par_lt hk
theorem backP_in {P : List Page} {a : Nat} (hI : Inv P a) : ∀ (n k : Nat), k < P.length → backP P n k < P.length := by
  intro n
  induction n with
  | zero => intro k hk; exact hk
  | succ n ih => intro k hk; exact ih _ (par_in hI k hk)
theorem backA_in {P : List Page} {a : Nat} (hI : Inv P a) (x : Int) : BackA P a x < P.length := by
  unfold BackA
  split
  · exact hI.at_
  · split
    · exact hI.at_
    · exact backP_in hI _ _ hI.at_
theorem had_back {w0 w1 : World} {c : Nat} {v : Value} {P : List Page} {a : Nat} {x : Int} {e : Ending} {w' : World} (hI : Inv P a) (hb : Below w0.heap.size w0 w1) (h : BackR c v P a w0.heap.size x w1 e w') : Had w0 c w' :=
  ⟨v, P, _, h.2.1, hI.go (backA_in hI x), hb.trans h.2.2.1⟩
theorem had_move {w0 w1 : World} {c : Nat} {v : Value} {P : List Page} {a : Nat} {x : Int} {e : Ending} {w' : World} (hI : Inv P a) (hb : Below w0.heap.size w0 w1) (h : MoveR c v P a w0.heap.size x w1 e w') : (∃ y z, e = .returned (.tuple #[.int .i64 y, .int .i64 z])) ∧ Had w0 c w' := by
  unfold MoveR at h
  split at h
  · obtain ⟨P', a', k, v', he, _, hC, hL, _, hI', _⟩ := h
    exact ⟨⟨_, _, he⟩, v', P', a', hC, hI', hb.trans hL.1⟩
  · obtain ⟨he, hC, hL⟩ := h
    exact ⟨⟨_, _, he⟩, v, P, a, hC, hI, hb.trans hL.1⟩
theorem cutActs (A : Option Addr) (len cap m : Nat) (hm : m ≤ cap) (W : World) : (Instr.slice 44 (.slice A len cap) none (some (.int .i64 m)) none).run Tryz.prog W = .ok (.slice A m cap) W := by
  have hel : Tryz.prog.elem 44 = 51 := by simp [Program.elem, Tryz.underlying44]
  have hu : Tryz.prog.underlying 44 = some (.slice (Tryz.prog.elem 44)) := by rw [hel]; exact Tryz.underlying44
  obtain ⟨i0, hi, hz0, hz1, hz2⟩ := info_parts (show (Tryz.prog.info? 51).map (fun i => (i.zero, i.size, i.bytes)) = some (some (.agg #[.int .i64 0, .int .i64 0, .int .i64 0, .string ByteArray.empty]), 4, 40) by kernel_rfl)
  rw [run_slice_h W 44 A len cap hu .i64 m (by omega) (by omega), hel]
  cases A <;> simp [sizeOf, typeInfo, hi, sliced, Result.andThen, go_sem]
set_option maxRecDepth 100000 in
set_option maxHeartbeats 4000000 in
theorem played_calls (n : Nat) (A : Option Addr) (cap : Nat) (l : List ActP) (w : World) (hE : Env n w) (hnw : n ≤ w.heap.size) (hA : ActsAt w A l) (hO : ActsOk l) (hlc : l.length ≤ cap) (hl63 : l.length ≤ 9223372036854775807) :
    Calls Tryz.prog 21 #[.slice A l.length cap] w (PlayedR w) := by
  have hnew := New_calls w
  have HE := Aside0.mk hE
  have HA := Aside0.mk hA
  have HO := Aside0.mk hO
  obtain ⟨m, hm⟩ : ∃ m, min l.length 60 = m := ⟨_, rfl⟩
  have hml : m ≤ l.length := by omega
  have hm60 : m ≤ 60 := by omega
  have hmin : min (l.length : Int) 60 = (m : Int) := by omega
  have hcut := cutActs A l.length cap m (by omega)
  clear hE hA hO
  go_enter Tryz.func21, Tryz.ntmps21
  go_wp2_with (go_at_call 23; (with_reducible refine hnew.mono ?_); rintro e w1 ⟨c, v, b, rfl, hC1, hb1⟩; have H0 := Aside0.mk (show Had w c w1 from ⟨v, _, _, hC1, Inv.new b, hb1⟩); clear hC1 hb1)
  clear hcut hmin
  go_loopg [13] m (fun gg s13 W => ∃ k : Nat, s13 = .int .i64 k ∧ k ≤ m ∧ Aside0 (m - k ≤ gg) ∧ Aside0 (Had w c W))
  case atStart => exact ⟨0, rfl, by omega, ⟨by omega⟩, H0⟩
  case round =>
    obtain ⟨k, rfl, hk, hgk, HH⟩ := hrel
    rcases Nat.lt_or_ge k m with hlt | hge
    · have hltz : (k : Int) < (m : Int) := by omega
      have hk0 : (0 : Int) ≤ (k : Int) := by omega
      obtain ⟨v, P, a, hC, hI, hB⟩ := HH.out
      obtain ⟨ad, rfl, x0, x1, x2, x3⟩ := HA.out k (by omega)
      obtain ⟨ho1, ho2⟩ := HO.out _ (getD_mem (z := default) (show k < l.length by omega))
      replace x0 := (hB.cell (World.block_lt_of_cell? w _ x0)).trans x0
      replace x1 := (hB.cell (World.block_lt_of_cell? w _ x1)).trans x1
      replace x2 := (hB.cell (World.block_lt_of_cell? w _ x2)).trans x2
      replace x3 := (hB.cell (World.block_lt_of_cell? w _ x3)).trans x3
      generalize (l.getD k default).kind = kd at x0
      generalize (l.getD k default).n = xn at x1 ho1
      generalize (l.getD k default).m = xm at x2
      generalize (l.getD k default).line = line at x3 ho2
      have hb1 := below_alloc (Below.refl wr.heap.size wr) (.cells #[.int .i64 kd, .int .i64 xn, .int .i64 xm, .string line] 51)
      have hw1 : Below w.heap.size w (wr.alloc (.cells #[.int .i64 kd, .int .i64 xn, .int .i64 xm, .string line] 51)) := hB.trans (hb1.mono hB.size)
      have hD := Aside0.mk (Do_calls2 n c v P a w.heap.size line _ (HE.out.below hw1 hnw) (Nat.le_trans hnw hw1.size) (hC.below hb1) hI hw1.size ho2)
      have hG := Aside0.mk ((Go_calls c v P a w.heap.size xn _ (hC.below hb1) (by have := hI.at_; omega) hw1.size).mono (fun e w' h => (⟨⟨_, h.1⟩, h.2⟩ : (∃ y, e = .returned (.int .i64 y)) ∧ _)))
      have hBk := Aside0.mk (Back_calls c v P a w.heap.size xn _ (hC.below hb1) hI.ok hw1.size ho1)
      have hM := Aside0.mk (Move_calls n c v P a w.heap.size xn _ (HE.out.below hw1 hnw) hnw (hC.below hb1) hI hw1.size)
      have HW1 := Aside0.mk hw1
      have HI := Aside0.mk hI
      have HN := Aside0.mk (show Had w c (wr.alloc (.cells #[.int .i64 kd, .int .i64 xn, .int .i64 xm, .string line] 51)) from ⟨v, P, a, hC.below hb1, hI, hw1⟩)
      clear hC hI hB hb1 hw1 ho1 ho2
      by_cases k0 : kd = 0
      · subst k0
        go_wp2_with (go_at_call 9; (refine hD.out.mono ?_); rintro e w4 h4; have H9 := Aside0.mk (had_do HI.out HW1.out h4); obtain ⟨rfl, _⟩ := h4)
        go_roundg (m - (k + 1))
        case measure => have := hgk.out; omega
        case rel => exact ⟨k + 1, by go_num, by omega, ⟨Nat.le_refl _⟩, H9⟩
      · have k0b : (kd == 0) = false := by simp [k0]
        by_cases k2 : kd = 2
        · subst k2
          go_wp2_with (go_at_call 13; (refine hG.out.mono ?_); rintro e w4 ⟨⟨y, rfl⟩, h4⟩; have H9 := Aside0.mk (had_go HI.out HW1.out h4); clear h4)
          go_roundg (m - (k + 1))
          case measure => have := hgk.out; omega
          case rel => exact ⟨k + 1, by go_num, by omega, ⟨Nat.le_refl _⟩, H9⟩
        · have k2b : (kd == 2) = false := by simp [k2]
          by_cases k3 : kd = 3
          · subst k3
            go_wp2_with (go_at_call 14; (refine hBk.out.mono ?_); rintro e w4 h4; have H9 := Aside0.mk (had_back HI.out HW1.out h4); obtain ⟨y, rfl⟩ : ∃ y, e = .returned (.int .i64 y) := ⟨_, h4.1⟩; clear h4)
            go_roundg (m - (k + 1))
            case measure => have := hgk.out; omega
            case rel => exact ⟨k + 1, by go_num, by omega, ⟨Nat.le_refl _⟩, H9⟩
          · have k3b : (kd == 3) = false := by simp [k3]
            by_cases k5 : kd = 5
            · subst k5
              go_wp2_with (go_at_call 12; (refine hM.out.mono ?_); rintro e w4 h4; obtain ⟨⟨y, z, rfl⟩, h5⟩ := had_move HI.out HW1.out h4; have H9 := Aside0.mk h5; clear h4 h5)
              go_roundg (m - (k + 1))
              case measure => have := hgk.out; omega
              case rel => exact ⟨k + 1, by go_num, by omega, ⟨Nat.le_refl _⟩, H9⟩
            · have k5b : (kd == 5) = false := by simp [k5]
              go_wp2
              go_roundg (m - (k + 1))
              case measure => have := hgk.out; omega
              case rel => exact ⟨k + 1, by go_num, by omega, ⟨Nat.le_refl _⟩, HN⟩
    · have hltz : ¬ (k : Int) < (m : Int) := by omega
      go_wp2
      go_ret
      exact ⟨c, rfl, HH.out⟩
end Go.Proofs.YtccnfbjdpgmlhaaGreatDoor
