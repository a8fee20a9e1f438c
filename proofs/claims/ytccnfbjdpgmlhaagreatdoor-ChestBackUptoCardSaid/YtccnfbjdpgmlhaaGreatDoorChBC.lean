/- Walks of the chest's laws: ChestBack. -/
import Derived.Test.YtccnfbjdpgmlhaaGreatDoorChBB
namespace Go.Proofs.YtccnfbjdpgmlhaaGreatDoor
open Go.RowKit Go.Proofs.YtccnfbjdpgmlhaaGreatDoorW.PrintWords Go.Proofs.YtccnfbjdpgmlhaaGreatDoorW.PrintLast Go.Proofs.YtccnfbjdpgmlhaaGreatDoorW.PrintMore
set_option linter.unusedVariables false
set_option linter.unusedSimpArgs false

set_option maxRecDepth 100000 in
set_option maxHeartbeats 16000000 in
theorem ChestBack_calls (n : Nat) (line : ByteArray) (hl : line.size ≤ 1048576)
    (l : List ActP) (A : Option Addr) (cap : Nat) (w : World) (hE : Env n w) (hnw : n ≤ w.heap.size) (hA : ActsAt w A l) (hO : ActsOk l) (hlc : l.length ≤ cap) (hl63 : l.length ≤ 9223372036854775807) :
    Calls Tryz.prog 8 #[.slice A l.length cap, .string line] w fun e w' => e = .returned (.bool true) ∧ Below w.heap.size w w' := by
  have hpl := played_calls n A cap l w hE hnw hA hO hlc hl63
  unfold PlayedR Had at hpl
  have HE := Aside0.mk hE
  clear hA hO hE
  go_enter Tryz.func8, Tryz.ntmps8
  go_wp2_with (first
    | (go_at_call 21; (with_reducible refine hpl.mono ?_); rintro e w1 ⟨c, rfl, v, P, a, hC1, hI1, hb1⟩; have HC := Aside0.mk hC1; have HI := Aside0.mk hI1; have HB := Aside0.mk hb1; obtain ⟨T0, hT0⟩ : ∃ T, textB (stP P a) = T := ⟨_, rfl⟩; have HS := Aside0.mk hT0; clear hT0 hC1 hI1 hb1)
    | (go_at_call 15; (with_reducible refine (At_calls c _ _ _ _ _ HC.out HI.out.book.some_).mono ?_); rintro e w' ⟨rfl, rfl⟩)
    | (go_at_call 19; have hS := State_calls2 n c _ _ _ _ _ (HE.out.below HB.out hnw) (Nat.le_trans hnw HB.out.size) HC.out HI.out; rw [HS.out] at hS; (with_reducible refine hS.mono ?_); clear hS; rintro e wS ⟨rfl, hbS⟩; have HC := Aside0.mk (HC.out.below hbS); have HB := Aside0.mk (HB.out.trans (hbS.mono HB.out.size)); clear hbS)
    | (go_at_call 16; (with_reducible refine (Path_calls c _ _ _ _ _ HC.out HI.out.ok).mono ?_); rintro e wP ⟨vHX, rfl, hRX, hbP⟩; have HX := Aside0.mk hRX; have HOHX := Aside0.mk HC.out.own_lt; have HC := Aside0.mk (HC.out.below hbP); have HB := Aside0.mk (HB.out.trans (hbP.mono HB.out.size)); clear hbP; clear hRX))
  have hD := Do_calls2 n c _ _ _ _ line _ (HE.out.below HB.out hnw) (Nat.le_trans hnw HB.out.size) HC.out HI.out HB.out.size hl
  have HMD := Aside0.mk (fun q => made_of HI.out line q)
  have HFL := Aside0.mk (fun q => fail_of HI.out line q)
  generalize (doP doF P a line 0).2.2.1 = r at hD HMD HFL
  generalize (doP doF P a line 0).2.2.2 = cd at hD HMD HFL
  unfold DoneR at hD
  have HDO := Aside0.mk hD
  clear hD hpl
  by_cases hc : cd = 0
  · subst hc
    go_wp2_with (first
    | (go_at_call 9; (with_reducible refine HDO.out.mono ?_); rintro e w4 ⟨rfl, q, v4, hC4, hL4, hN4⟩; have hM := HMD.out q rfl; generalize (doP doF P a line q).1 = P4 at hC4 hM; generalize (doP doF P a line q).2.1 = a4 at hC4 hM; have HX := Aside0.mk (row_kept HX.out hL4.2 HOHX.out.1 HOHX.out.2); have HC := Aside0.mk hC4; have HIP := HI; have HI := Aside0.mk hM.inv; have HM := Aside0.mk hM; have HB := Aside0.mk (HB.out.trans hL4.1); obtain ⟨T1, hT1⟩ : ∃ T, textB (stP P4 a4) = T := ⟨_, rfl⟩; have HS0 := HS; have HS := Aside0.mk hT1; clear hT1 hM hC4 hL4 hN4)
    | (go_at_call 15; (with_reducible refine (At_calls c _ _ _ _ _ HC.out HI.out.book.some_).mono ?_); rintro e w' ⟨rfl, rfl⟩)
    | (go_at_call 19; have hS := State_calls2 n c _ _ _ _ _ (HE.out.below HB.out hnw) (Nat.le_trans hnw HB.out.size) HC.out HI.out; rw [HS.out] at hS; (with_reducible refine hS.mono ?_); clear hS; rintro e wS ⟨rfl, hbS⟩; have HC := Aside0.mk (HC.out.below hbS); have HB := Aside0.mk (HB.out.trans (hbS.mono HB.out.size)); (try (have HX := Aside0.mk (Kd.R_below HX.out hbS))); clear hbS)
    | (go_at_call 16; (with_reducible refine (Path_calls c _ _ _ _ _ HC.out HI.out.ok).mono ?_); rintro e wQ ⟨vHY, rfl, hRX, hbP⟩; have HY := Aside0.mk hRX; have HOHY := Aside0.mk HC.out.own_lt; have HC := Aside0.mk (HC.out.below hbP); have HB := Aside0.mk (HB.out.trans (hbP.mono HB.out.size)); have HX := Aside0.mk (Kd.R_below HX.out hbP); clear hbP; clear hRX)
    | (go_at_call 27; (with_reducible refine (cloneStr_calls HX.out (Nat.le_trans (pathP_len HIP.out) (by decide))).mono ?_); rintro e w7 ⟨vZ, rfl, hRZ, hb7⟩; have HZ := Aside0.mk hRZ; have HB7 := Aside0.mk hb7; clear hRZ hb7)
    | (at_builtin; refine Kd.R_append Kd.string (w0 := wQ) wQ.heap.size rfl (.tmp 54) (.tmp 56) 35 9 (.string ByteArray.empty) 16 rfl Tryz.underlying35 infoStr rfl (by decide) (by omega) vZ (pathP P a) line [.string line] Tt (fun _ => False) rfl (by first | (go_simp; done) | (go_simp; rfl)) rfl (fun _ hk => hk.elim) (fun _ _ => trivial) HZ.out HB7.out HB7.out.size (by have := pathP_len HIP.out; omega) ?_; intro v8 w8 hR8 hb8 hg8 hat8; have HZ := Aside0.mk hR8; have HY := Aside0.mk (Kd.R_below HY.out hb8); have HC := Aside0.mk (HC.out.below hb8); have HB := Aside0.mk (HB.out.trans (hb8.mono HB.out.size)); clear hb8; clear hR8 hg8 hat8)
    | (go_at_call 25; have hQ := eqStr_calls HY.out HZ.out (Nat.le_trans (pathP_len HI.out) (by decide)) (by have := pathP_len HIP.out; rw [List.length_append, List.length_singleton]; omega); rw [decide_eq_true HM.out.path] at hQ; (with_reducible refine hQ.mono ?_); clear hQ; rintro e w9 ⟨rfl, hb9⟩; have HC := Aside0.mk (HC.out.below hb9); have HB := Aside0.mk (HB.out.trans (hb9.mono HB.out.size)); clear hb9)
    | (go_at_call 14; have hK := Back_calls c _ _ _ _ 1 _ HC.out HI.out.ok HB.out.size (by decide); unfold BackR at hK; rw [(back_one HI.out HM.out.pos).1, (back_one HI.out HM.out.pos).2, HM.out.par_] at hK; (with_reducible refine hK.mono ?_); clear hK; rintro e w10 ⟨rfl, hC10, hL10⟩; have HC := Aside0.mk hC10; have HIM := HI; have HI := Aside0.mk (HI.out.go (Nat.lt_of_lt_of_le HIP.out.at_ HM.out.grows.len)); have HB := Aside0.mk (HB.out.trans hL10.1); have HS1 := HS; have HS := Aside0.mk (show textB (stP P4 a) = T0 by rw [HM.out.old]; exact HS0.out); clear hC10 hL10)
    | (go_at_call 17; (with_reducible refine (Children_calls c _ _ _ _ _ HC.out HI.out.ok).mono ?_); rintro e w11 ⟨vC, rfl, hRC, hb11⟩; have HRC := Aside0.mk hRC; have HC := Aside0.mk (HC.out.below hb11); have HB := Aside0.mk (HB.out.trans (hb11.mono HB.out.size)); clear hb11; clear hRC)
    | (go_at_call 26; have hH := hasInt_calls HRC.out (toI_children_len _ _ HI.out.book.most) (a4 : Int); rw [toI_has HM.out.child] at hH; (with_reducible refine hH.mono ?_); clear hH; rintro e w' ⟨rfl, rfl⟩)
    | (go_at_call 9; have hD := Do_calls2 n c _ _ _ _ line _ (HE.out.below HB.out hnw) (Nat.le_trans hnw HB.out.size) HC.out HI.out HB.out.size hl; unfold DoneR at hD; simp only [HM.out.again] at hD; (with_reducible refine hD.mono ?_); clear hD; rintro e w12 ⟨rfl, q2, v12, hC12, hL12, _⟩; have HC := Aside0.mk hC12; have HI := HIM; have HB := Aside0.mk (HB.out.trans hL12.1); have HS := HS1; clear hC12 hL12)
    | (go_at_call 20; (with_reducible refine (awake_calls n _ (HE.out.below HB.out hnw) (Nat.le_trans hnw HB.out.size)).mono ?_); rintro e wA ⟨rfl, hbA⟩; have HB := Aside0.mk (HB.out.trans (hbA.mono HB.out.size)); clear hbA))
    go_ret
    exact ⟨rfl, HB.out⟩
  · have hcb : (cd != 0) = true := by simp [hc]
    have e3 := (HFL.out 0 hc).2.2
    subst e3
    go_wp2_with (first
    | (go_at_call 9; (with_reducible refine HDO.out.mono ?_); rintro e w4 ⟨rfl, q, v4, hC4, hL4, hN4⟩; obtain ⟨e1, e2, _⟩ := HFL.out q hc; rw [e1, e2] at hC4; have HC := Aside0.mk hC4; have HB := Aside0.mk (HB.out.trans hL4.1); clear e1 e2 hC4 hL4 hN4)
    | (go_at_call 15; (with_reducible refine (At_calls c _ _ _ _ _ HC.out HI.out.book.some_).mono ?_); rintro e w' ⟨rfl, rfl⟩)
    | (go_at_call 19; have hS := State_calls2 n c _ _ _ _ _ (HE.out.below HB.out hnw) (Nat.le_trans hnw HB.out.size) HC.out HI.out; rw [HS.out] at hS; (with_reducible refine hS.mono ?_); clear hS; rintro e wS ⟨rfl, hbS⟩; have HC := Aside0.mk (HC.out.below hbS); have HB := Aside0.mk (HB.out.trans (hbS.mono HB.out.size)); clear hbS)
    | (go_at_call 20; (with_reducible refine (awake_calls n _ (HE.out.below HB.out hnw) (Nat.le_trans hnw HB.out.size)).mono ?_); rintro e wA ⟨rfl, hbA⟩; have HB := Aside0.mk (HB.out.trans (hbA.mono HB.out.size)); clear hbA))
    go_ret
    exact ⟨rfl, HB.out⟩
end Go.Proofs.YtccnfbjdpgmlhaaGreatDoor
