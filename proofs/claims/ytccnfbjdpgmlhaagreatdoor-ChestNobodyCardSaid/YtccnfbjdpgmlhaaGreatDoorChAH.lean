/- Walks of the chest's laws: a chest that nobody made; ChestNobody. -/
import Derived.Test.YtccnfbjdpgmlhaaGreatDoorChAG
import Derived.Test.YtccnfbjdpgmlhaaGreatDoorChY
namespace Go.Proofs.YtccnfbjdpgmlhaaGreatDoor
open Go.RowKit Go.Proofs.YtccnfbjdpgmlhaaGreatDoorW.PrintWords Go.Proofs.YtccnfbjdpgmlhaaGreatDoorW.PrintLast Go.Proofs.YtccnfbjdpgmlhaaGreatDoorW.PrintMore
set_option linter.unusedVariables false
set_option linter.unusedSimpArgs false

theorem Do_none (p : Option Addr) (x : ByteArray) (w : World) (hn : Calls Tryz.prog 28 #[.pointer p] w fun e w' => e = .returned (.bool true) ∧ w = w') :
    Calls Tryz.prog 9 #[.pointer p, .string x] w fun e w' => e = .returned (.tuple #[.string ⟨#[]⟩, .int .i64 1]) ∧ w = w' := by
  go_enter Tryz.func9, Tryz.ntmps9
  go_wp2_with (go_at_call 28; (with_reducible refine hn.mono ?_); rintro e w' ⟨rfl, rfl⟩)
  go_ret2
  exact ⟨rfl, rfl⟩
theorem Ask_none (p : Option Addr) (x : ByteArray) (w : World) (hn : Calls Tryz.prog 28 #[.pointer p] w fun e w' => e = .returned (.bool true) ∧ w = w') :
    Calls Tryz.prog 10 #[.pointer p, .string x] w fun e w' => e = .returned (.tuple #[.string ⟨#[]⟩, .int .i64 1]) ∧ w = w' := by
  go_enter Tryz.func10, Tryz.ntmps10
  go_wp2_with (go_at_call 28; (with_reducible refine hn.mono ?_); rintro e w' ⟨rfl, rfl⟩)
  go_ret2
  exact ⟨rfl, rfl⟩
theorem Fork_none (p : Option Addr) (x y : Int) (w : World) (hn : Calls Tryz.prog 28 #[.pointer p] w fun e w' => e = .returned (.bool true) ∧ w = w') :
    Calls Tryz.prog 11 #[.pointer p, .int .i64 x, .int .i64 y] w fun e w' => e = .returned (.tuple #[.int .i64 0, .int .i64 1]) ∧ w = w' := by
  go_enter Tryz.func11, Tryz.ntmps11
  go_wp2_with (go_at_call 28; (with_reducible refine hn.mono ?_); rintro e w' ⟨rfl, rfl⟩)
  go_ret2
  exact ⟨rfl, rfl⟩
theorem Move_none (p : Option Addr) (x : Int) (w : World) (hn : Calls Tryz.prog 28 #[.pointer p] w fun e w' => e = .returned (.bool true) ∧ w = w') :
    Calls Tryz.prog 12 #[.pointer p, .int .i64 x] w fun e w' => e = .returned (.tuple #[.int .i64 0, .int .i64 1]) ∧ w = w' := by
  go_enter Tryz.func12, Tryz.ntmps12
  go_wp2_with (go_at_call 28; (with_reducible refine hn.mono ?_); rintro e w' ⟨rfl, rfl⟩)
  go_ret2
  exact ⟨rfl, rfl⟩
theorem Go_none (p : Option Addr) (x : Int) (w : World) (hn : Calls Tryz.prog 28 #[.pointer p] w fun e w' => e = .returned (.bool true) ∧ w = w') :
    Calls Tryz.prog 13 #[.pointer p, .int .i64 x] w fun e w' => e = .returned (.int .i64 1) ∧ w = w' := by
  go_enter Tryz.func13, Tryz.ntmps13
  go_wp2_with (go_at_call 28; (with_reducible refine hn.mono ?_); rintro e w' ⟨rfl, rfl⟩)
  go_ret
  exact ⟨rfl, rfl⟩
theorem Back_none (p : Option Addr) (x : Int) (w : World) (hn : Calls Tryz.prog 28 #[.pointer p] w fun e w' => e = .returned (.bool true) ∧ w = w') :
    Calls Tryz.prog 14 #[.pointer p, .int .i64 x] w fun e w' => e = .returned (.int .i64 1) ∧ w = w' := by
  go_enter Tryz.func14, Tryz.ntmps14
  go_wp2_with (go_at_call 28; (with_reducible refine hn.mono ?_); rintro e w' ⟨rfl, rfl⟩)
  go_ret
  exact ⟨rfl, rfl⟩
theorem At_none (p : Option Addr)  (w : World) (hn : Calls Tryz.prog 28 #[.pointer p] w fun e w' => e = .returned (.bool true) ∧ w = w') :
    Calls Tryz.prog 15 #[.pointer p] w fun e w' => e = .returned (.int .i64 0) ∧ w = w' := by
  go_enter Tryz.func15, Tryz.ntmps15
  go_wp2_with (go_at_call 28; (with_reducible refine hn.mono ?_); rintro e w' ⟨rfl, rfl⟩)
  go_ret
  exact ⟨rfl, rfl⟩
theorem Path_none (p : Option Addr)  (w : World) (hn : Calls Tryz.prog 28 #[.pointer p] w fun e w' => e = .returned (.bool true) ∧ w = w') :
    Calls Tryz.prog 16 #[.pointer p] w fun e w' => e = .returned (.slice none 0 0) ∧ w = w' := by
  go_enter Tryz.func16, Tryz.ntmps16
  go_wp2_with (go_at_call 28; (with_reducible refine hn.mono ?_); rintro e w' ⟨rfl, rfl⟩)
  go_ret
  exact ⟨rfl, rfl⟩
theorem Children_none (p : Option Addr)  (w : World) (hn : Calls Tryz.prog 28 #[.pointer p] w fun e w' => e = .returned (.bool true) ∧ w = w') :
    Calls Tryz.prog 17 #[.pointer p] w fun e w' => e = .returned (.slice none 0 0) ∧ w = w' := by
  go_enter Tryz.func17, Tryz.ntmps17
  go_wp2_with (go_at_call 28; (with_reducible refine hn.mono ?_); rintro e w' ⟨rfl, rfl⟩)
  go_ret
  exact ⟨rfl, rfl⟩
theorem Bytes_none (p : Option Addr)  (w : World) (hn : Calls Tryz.prog 28 #[.pointer p] w fun e w' => e = .returned (.bool true) ∧ w = w') :
    Calls Tryz.prog 18 #[.pointer p] w fun e w' => e = .returned (.slice none 0 0) ∧ w = w' := by
  go_enter Tryz.func18, Tryz.ntmps18
  go_wp2_with (go_at_call 28; (with_reducible refine hn.mono ?_); rintro e w' ⟨rfl, rfl⟩)
  go_ret
  exact ⟨rfl, rfl⟩
theorem State_none (p : Option Addr)  (w : World) (hn : Calls Tryz.prog 28 #[.pointer p] w fun e w' => e = .returned (.bool true) ∧ w = w') :
    Calls Tryz.prog 19 #[.pointer p] w fun e w' => e = .returned (.string ⟨#[]⟩) ∧ w = w' := by
  go_enter Tryz.func19, Tryz.ntmps19
  go_wp2_with (go_at_call 28; (with_reducible refine hn.mono ?_); rintro e w' ⟨rfl, rfl⟩)
  go_ret
  exact ⟨rfl, rfl⟩
set_option maxHeartbeats 8000000 in
set_option maxRecDepth 100000 in
theorem ChestNobody_calls (n : Nat) (x : ByteArray) (a b : Int) (w : World) (hE : Env n w) (hnw : n ≤ w.heap.size) :
    Calls Tryz.prog 3 #[.string x, .int .i64 a, .int .i64 b] w fun e w' => e = .returned (.bool true) ∧ Below w.heap.size w w' := by
  have B1 := below_alloc (Below.refl w.heap.size w) (.cells #[.slice none 0 0, .int .i64 0] 25)
  have B2 := below_alloc B1 (.cells #[.pointer none, .pointer (some ⟨w.heap.size, 0, none⟩)] 22)
  have hz : (w.alloc (.cells #[.slice none 0 0, .int .i64 0] 25)).heap.size = w.heap.size + 1 := by simp
  have k0 := (blk_cell (blk_alloc (blk_new w (.cells #[.slice none 0 0, .int .i64 0] 25)) (.cells #[.pointer none, .pointer (some ⟨w.heap.size, 0, none⟩)] 22)) 0).trans rfl
  have hb := blk_new (w.alloc (.cells #[.slice none 0 0, .int .i64 0] 25)) (.cells #[.pointer none, .pointer (some ⟨w.heap.size, 0, none⟩)] 22)
  rw [hz] at hb
  have c0 := (blk_cell hb 0).trans rfl
  have c1 := (blk_cell hb 1).trans rfl
  have HAW := Aside0.mk (fun (W : World) (hW : Below w.heap.size w W) => awake_calls n W (hE.below hW hnw) (Nat.le_trans hnw hW.size))
  obtain ⟨w2, hw2⟩ : ∃ w2, (w.alloc (.cells #[.slice none 0 0, .int .i64 0] 25)).alloc (.cells #[.pointer none, .pointer (some ⟨w.heap.size, 0, none⟩)] 22) = w2 := ⟨_, rfl⟩
  rw [hw2] at B2 k0 c0 c1
  have HX := Aside0.mk (show ∀ k : Nat, k < 2 → ∃ p : Option Addr, w2.cell? ⟨w.heap.size + 1, k, none⟩ = some (.pointer p) ∧ (Calls Tryz.prog 28 #[.pointer p] w2 fun e w' => e = .returned (.bool true) ∧ w2 = w') from fun k hk => by
    match k, hk with
    | 0, _ => exact ⟨none, c0, none_nil w2⟩
    | 1, _ => exact ⟨_, c1, none_empty w.heap.size w2 k0⟩)
  have HB2 := Aside0.mk B2
  have HW2 := Aside0.mk hw2
  clear B1 B2 k0 hb c0 c1 hE hw2
  go_enter Tryz.func3, Tryz.ntmps3
  go_wp2
  rw [HW2.out]
  go_loopg [21] 2 (fun gg s21 W => ∃ k : Nat, s21 = .int .i64 k ∧ k ≤ 2 ∧ Aside0 (2 - k ≤ gg) ∧ w2 = W)
  case atStart => exact ⟨0, rfl, by omega, ⟨by omega⟩, rfl⟩
  case round =>
    obtain ⟨k, rfl, hk, hgk, rfl⟩ := hrel
    rcases Nat.lt_or_ge k 2 with hlt | hge
    · have hltz : (k : Int) < 2 := by omega
      have hk0 : (0 : Int) ≤ (k : Int) := by omega
      obtain ⟨p, hp, hn⟩ := HX.out k hlt
      have HN := Aside0.mk hn
      clear hn
      go_wp2_with (first
        | (go_at_call 9; (with_reducible refine (Do_none p _ w2 HN.out).mono ?_); rintro e w' ⟨rfl, rfl⟩)
        | (go_at_call 10; (with_reducible refine (Ask_none p _ w2 HN.out).mono ?_); rintro e w' ⟨rfl, rfl⟩)
        | (go_at_call 11; (with_reducible refine (Fork_none p _ _ w2 HN.out).mono ?_); rintro e w' ⟨rfl, rfl⟩)
        | (go_at_call 12; (with_reducible refine (Move_none p _ w2 HN.out).mono ?_); rintro e w' ⟨rfl, rfl⟩)
        | (go_at_call 13; (with_reducible refine (Go_none p _ w2 HN.out).mono ?_); rintro e w' ⟨rfl, rfl⟩)
        | (go_at_call 14; (with_reducible refine (Back_none p _ w2 HN.out).mono ?_); rintro e w' ⟨rfl, rfl⟩)
        | (go_at_call 15; (with_reducible refine (At_none p  w2 HN.out).mono ?_); rintro e w' ⟨rfl, rfl⟩)
        | (go_at_call 16; (with_reducible refine (Path_none p  w2 HN.out).mono ?_); rintro e w' ⟨rfl, rfl⟩)
        | (go_at_call 17; (with_reducible refine (Children_none p  w2 HN.out).mono ?_); rintro e w' ⟨rfl, rfl⟩)
        | (go_at_call 18; (with_reducible refine (Bytes_none p  w2 HN.out).mono ?_); rintro e w' ⟨rfl, rfl⟩)
        | (go_at_call 19; (with_reducible refine (State_none p  w2 HN.out).mono ?_); rintro e w' ⟨rfl, rfl⟩))
      go_roundg (2 - (k + 1))
      case measure => have := hgk.out; omega
      case rel => exact ⟨k + 1, by go_num, by omega, ⟨Nat.le_refl _⟩, rfl⟩
    · have hltz : ¬ (k : Int) < 2 := by omega
      go_wp2_with (go_at_call 20; (with_reducible refine (HAW.out _ HB2.out).mono ?_); rintro e w3 ⟨rfl, hb3⟩; have HB3 := Aside0.mk (HB2.out.trans (hb3.mono HB2.out.size)); clear hb3)
      go_ret
      exact ⟨rfl, HB3.out⟩
end Go.Proofs.YtccnfbjdpgmlhaaGreatDoor
