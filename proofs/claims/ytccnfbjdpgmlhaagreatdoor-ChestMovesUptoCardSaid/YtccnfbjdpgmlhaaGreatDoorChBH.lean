/- Walks of the chest's laws: ChestMoves. -/
import Derived.Test.YtccnfbjdpgmlhaaGreatDoorChBI
namespace Go.Proofs.YtccnfbjdpgmlhaaGreatDoor
open Go.RowKit Go.Proofs.YtccnfbjdpgmlhaaGreatDoorW.PrintWords Go.Proofs.YtccnfbjdpgmlhaaGreatDoorW.PrintLast Go.Proofs.YtccnfbjdpgmlhaaGreatDoorW.PrintMore
set_option linter.unusedVariables false
set_option linter.unusedSimpArgs false

set_option maxRecDepth 100000 in
set_option maxHeartbeats 16000000 in
theorem ChestMoves_calls (n : Nat) (x : Int) (hx0 : -9223372036854775808 ≤ x) (hx1 : x ≤ 9223372036854775807)
    (l : List ActP) (A : Option Addr) (cap : Nat) (w : World) (hE : Env n w) (hnw : n ≤ w.heap.size) (hA : ActsAt w A l) (hO : ActsOk l) (hlc : l.length ≤ cap) (hl63 : l.length ≤ 9223372036854775807) :
    Calls Tryz.prog 7 #[.slice A l.length cap, .int .i64 x] w fun e w' => e = .returned (.bool true) ∧ Below w.heap.size w w' := by
  have hpl := played_calls n A cap l w hE hnw hA hO hlc hl63
  unfold PlayedR Had at hpl
  have HE := Aside0.mk hE
  clear hA hO hE
  go_enter Tryz.func7, Tryz.ntmps7
  go_wp2_with (first
    | (go_at_call 21; (with_reducible refine hpl.mono ?_); rintro e w1 ⟨c, rfl, v, P, a, hC1, hI1, hb1⟩; have HC := Aside0.mk hC1; have HI := Aside0.mk hI1; have HB := Aside0.mk hb1; obtain ⟨T0, hT0⟩ : ∃ T, textB (stP P a) = T := ⟨_, rfl⟩; have HS := Aside0.mk hT0; clear hT0 hC1 hI1 hb1)
    | (go_at_call 22; (with_reducible refine (ways_calls c _ _ _ _ _ HC.out HI.out HB.out.size).mono ?_); rintro e wW ⟨vW, rfl, hRW, hSW⟩; obtain ⟨gW, cW, rfl, hcW⟩ := ints_cells hRW (ways_pos HI.out); obtain ⟨m, hm⟩ : ∃ m, (toI (waysF P a)).length = m := ⟨_, rfl⟩; have hWl := ways_len2 HI.out; rw [hm] at hWl; rw [hm] at hcW ⊢; have HWL := Aside0.mk hm; clear hm; obtain ⟨u, i, hi, cv1, cv2, cv4⟩ := umod_runs x m (by omega) (by omega); have xw := hcW i hi; rw [Nat.zero_add, toI_getD] at xw; obtain ⟨f, hf⟩ : ∃ f, (waysF P a).getD i 0 = f := ⟨_, rfl⟩; rw [hf] at xw; have HF := Aside0.mk hf; clear hf hcW; have hi0 : (0 : Int) ≤ (i : Int) := (by omega); have hi1 : (i : Int) < (m : Int) := (by omega); have HB := Aside0.mk (HB.out.trans hSW.low); have HC := Aside0.mk (hSW.chest HC.out); clear hRW hSW)
    | (go_at_call 15; (with_reducible refine (At_calls c _ _ _ _ _ HC.out HI.out.book.some_).mono ?_); rintro e w' ⟨rfl, rfl⟩)
    | (go_at_call 19; have hS := State_calls2 n c _ _ _ _ _ (HE.out.below HB.out hnw) (Nat.le_trans hnw HB.out.size) HC.out HI.out; rw [HS.out] at hS; (with_reducible refine hS.mono ?_); clear hS; rintro e wS ⟨rfl, hbS⟩; have HC := Aside0.mk (HC.out.below hbS); have HB := Aside0.mk (HB.out.trans (hbS.mono HB.out.size)); clear hbS)
    | (go_at_call 16; (with_reducible refine (Path_calls c _ _ _ _ _ HC.out HI.out.ok).mono ?_); rintro e wP ⟨vHX, rfl, hRX, hbP⟩; obtain ⟨AHX, kHX, rfl⟩ := Kd.R_slice hRX; have HC := Aside0.mk (HC.out.below hbP); have HB := Aside0.mk (HB.out.trans (hbP.mono HB.out.size)); clear hbP; clear hRX))
  have hil : i ≤ (wayP P a).length := by have := HWL.out; rw [toI_length] at this; simp [waysF] at this; omega
  have hfm := way_mem hil
  have hfl := way_len HI.out.book.tree a HI.out.at_ i hil
  have hfe : (0 :: wayP P a).getD i 0 = f := HF.out
  rw [hfe] at hfm hfl
  have hfp : f < P.length := by
    rcases hfm with h | h
    · rw [h]; exact HI.out.book.some_
    · exact (wayP_in HI.out.book.tree HI.out.at_ h).2.1
  have HFM := Aside0.mk hfm
  have hpa := pathP_len HI.out
  have hpf := pathP_len (HI.out.go hfp)
  have HKK := Aside0.mk (show ((((wayP P a).length - (wayP P f).length : Nat)) : Int) = ((pathP P a).length : Int) - ((pathP P f).length : Int) by simp only [pathP, List.length_map]; omega)
  have HIA := HI
  have hat := HI.out.at_
  clear hfm hfe hfl hpl xw cv1 cv2 cv4
  go_wp2_with (first
    | (go_at_call 15; (with_reducible refine (At_calls c _ _ _ _ _ HC.out HI.out.book.some_).mono ?_); rintro e w' ⟨rfl, rfl⟩)
    | (go_at_call 19; have hS := State_calls2 n c _ _ _ _ _ (HE.out.below HB.out hnw) (Nat.le_trans hnw HB.out.size) HC.out HI.out; rw [HS.out] at hS; (with_reducible refine hS.mono ?_); clear hS; rintro e wS ⟨rfl, hbS⟩; have HC := Aside0.mk (HC.out.below hbS); have HB := Aside0.mk (HB.out.trans (hbS.mono HB.out.size)); clear hbS)
    | (go_at_call 13; (with_reducible refine (Go_calls3 c _ _ _ _ f _ HC.out hfp HB.out.size).mono ?_); rintro e wG ⟨rfl, hSG⟩; have HB := Aside0.mk (HB.out.trans hSG.low); have HC := Aside0.mk (hSG.chest HC.out); have HI := Aside0.mk (HI.out.go hfp); clear hSG)
    | (go_at_call 16; (with_reducible refine (Path_calls c _ _ _ _ _ HC.out HI.out.ok).mono ?_); rintro e wQ ⟨vHY, rfl, hRX, hbP⟩; obtain ⟨AHY, kHY, rfl⟩ := Kd.R_slice hRX; have HC := Aside0.mk (HC.out.below hbP); have HB := Aside0.mk (HB.out.trans (hbP.mono HB.out.size)); clear hbP; clear hRX)
    | (go_at_call 12; have hM := Move_down n c _ P a f _ _ (HE.out.below HB.out hnw) hnw HC.out HI.out HB.out.size hat HFM.out; unfold MovedR at hM; rw [HKK.out] at hM; (with_reducible refine hM.mono ?_); clear hM; rintro e wM ⟨rfl, v9, hC9, hL9, _⟩; have HC := Aside0.mk hC9; have HI := HIA; have HB := Aside0.mk (HB.out.trans hL9.1); clear hC9 hL9)
    | (go_at_call 12; have hM := Move_up n c _ P a f _ _ (HE.out.below HB.out hnw) hnw HC.out HI.out HB.out.size hfp HFM.out; unfold MovedR at hM; (with_reducible refine hM.mono ?_); clear hM; rintro e wM ⟨rfl, v10, hC10, hL10, _⟩; have HC := Aside0.mk hC10; have HB := Aside0.mk (HB.out.trans hL10.1); clear hC10 hL10)
    | (go_at_call 20; (with_reducible refine (awake_calls n _ (HE.out.below HB.out hnw) (Nat.le_trans hnw HB.out.size)).mono ?_); rintro e wA ⟨rfl, hbA⟩; have HB := Aside0.mk (HB.out.trans (hbA.mono HB.out.size)); clear hbA))
  go_ret
  exact ⟨rfl, HB.out⟩
end Go.Proofs.YtccnfbjdpgmlhaaGreatDoor
