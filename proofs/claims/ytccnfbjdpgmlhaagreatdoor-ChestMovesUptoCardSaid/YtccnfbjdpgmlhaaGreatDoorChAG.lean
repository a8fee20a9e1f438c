/- Walks of the chest's laws: awake. -/
import Derived.Test.YtccnfbjdpgmlhaaGreatDoorChAF
namespace Go.Proofs.YtccnfbjdpgmlhaaGreatDoor
open Go.RowKit Go.Proofs.YtccnfbjdpgmlhaaGreatDoorW.PrintWords Go.Proofs.YtccnfbjdpgmlhaaGreatDoorW.PrintLast Go.Proofs.YtccnfbjdpgmlhaaGreatDoorW.PrintMore
set_option linter.unusedVariables false
set_option linter.unusedSimpArgs false

abbrev leafAma3 : ByteArray := ⟨#[108, 101, 97, 102, 32, 97, 109, 97, 32, 51]⟩
abbrev gap0B : ByteArray := ⟨#[103, 97, 112, 32, 48]⟩
theorem awake1 : (doF St.zero leafAma3).2 = (⟨#[108, 101, 97, 102]⟩, 0) := by kernel_rfl
theorem awake2 : askGapF (doF St.zero leafAma3).1 gapWB = (gap0B, 0) := by kernel_rfl
theorem awake3 (b : Nat) : childP [page0 b] 0 leafAma3 = -1 := by kernel_rfl
theorem awake4 : wordL gapWB = kGapW := by kernel_rfl
theorem awake5 (b q : Nat) : doP doF [page0 b] 0 leafAma3 q = ([page0 b, ⟨leafAma3, 0, q, (doF St.zero leafAma3).1⟩], 1, ⟨#[108, 101, 97, 102]⟩, 0) := by
  have e : stP [page0 b] 0 = St.zero := rfl
  unfold doP
  rw [e, awake1, awake3, if_neg (by decide), if_neg (by decide), if_neg (by simp)]
  rfl
set_option maxHeartbeats 2000000 in
theorem awake_calls (n : Nat) (w : World) (hE : Env n w) (hnw : n ≤ w.heap.size) :
    Calls Tryz.prog 20 #[] w fun e w' => e = .returned (.bool true) ∧ Below w.heap.size w w' := by
  have hnew := New_calls w
  have HE := Aside0.mk hE
  clear hE
  go_enter Tryz.func20, Tryz.ntmps20
  go_wp2_with (first
    | (go_at_call 23; (with_reducible refine hnew.mono ?_); rintro e w1 ⟨c, v, b, rfl, hC1, hb1⟩; have HB1 := Aside0.mk hb1; have HD := (Do_calls2 n c v [page0 b] 0 w.heap.size leafAma3 w1 (HE.out.below hb1 hnw) (Nat.le_trans hnw hb1.size) hC1 (Inv.new b) hb1.size (by decide)); unfold DoneR at HD; rw [awake5 b 0] at HD; have HDO := Aside0.mk HD; clear HD hC1 hb1)
    | (go_at_call 9; (with_reducible refine HDO.out.mono ?_); rintro e w2 ⟨rfl, q, v2, hC2, hL2, hN2⟩; have HI2 := (Inv.new b).do_ leafAma3 q; rw [awake5 b q] at hC2 HI2; have HB2 := Aside0.mk (HB1.out.trans hL2.1); have HAK := (Ask_gap n c v2 _ 1 w.heap.size gapWB w2 (HE.out.below HB2.out hnw) (Nat.le_trans hnw HB2.out.size) hC2 HI2.ok HI2.good (by decide) awake4); unfold AskR at HAK; rw [show stP [page0 b, (⟨leafAma3, 0, q, (doF St.zero leafAma3).1⟩ : Page)] 1 = (doF St.zero leafAma3).1 from rfl, awake2] at HAK; have HASK := Aside0.mk HAK; have HC2 := Aside0.mk hC2; clear HAK hC2 hL2 hN2 HI2)
    | (go_at_call 10; (with_reducible refine HASK.out.mono ?_); rintro e w3 ⟨rfl, hb3⟩; have HB3 := Aside0.mk (HB2.out.trans (hb3.mono HB2.out.size)); have HAT := Aside0.mk (At_calls c v2 _ 1 w.heap.size w3 (HC2.out.below hb3) (by simp)); clear hb3)
    | (go_at_call 15; (with_reducible refine HAT.out.mono ?_); rintro e w4 ⟨rfl, rfl⟩))
  go_ret
  exact ⟨rfl, HB3.out⟩
end Go.Proofs.YtccnfbjdpgmlhaaGreatDoor
