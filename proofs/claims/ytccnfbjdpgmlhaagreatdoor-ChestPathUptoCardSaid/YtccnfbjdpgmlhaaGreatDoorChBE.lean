/- Walks of the chest's laws: ChestPath. -/
import Derived.Test.YtccnfbjdpgmlhaaGreatDoorChBD
namespace Go.Proofs.YtccnfbjdpgmlhaaGreatDoor
open Go.RowKit Go.Proofs.YtccnfbjdpgmlhaaGreatDoorW.PrintWords Go.Proofs.YtccnfbjdpgmlhaaGreatDoorW.PrintLast Go.Proofs.YtccnfbjdpgmlhaaGreatDoorW.PrintMore
set_option linter.unusedVariables false
set_option linter.unusedSimpArgs false

theorem pathP_size {P : List Page} {a : Nat} (hI : Inv P a) : ∀ x ∈ pathP P a, x.size ≤ 60 := by
  intro x hx
  obtain ⟨p, hp, rfl⟩ := List.mem_map.mp hx
  exact chg_size hI (wayP_in hI.book.tree hI.at_ hp).2.1
set_option maxRecDepth 100000 in
set_option maxHeartbeats 16000000 in
theorem ChestPath_calls (n : Nat) (other : Int)
    (l : List ActP) (A : Option Addr) (cap : Nat) (w : World) (hE : Env n w) (hnw : n ≤ w.heap.size) (hA : ActsAt w A l) (hO : ActsOk l) (hlc : l.length ≤ cap) (hl63 : l.length ≤ 9223372036854775807) :
    Calls Tryz.prog 6 #[.slice A l.length cap, .int .i64 other] w fun e w' => e = .returned (.bool true) ∧ Below w.heap.size w w' := by
  have hpl := played_calls n A cap l w hE hnw hA hO hlc hl63
  unfold PlayedR Had at hpl
  have HE := Aside0.mk hE
  clear hA hO hE
  go_enter Tryz.func6, Tryz.ntmps6
  go_wp2_with (first
    | (go_at_call 21; (with_reducible refine hpl.mono ?_); rintro e w1 ⟨c, rfl, v, P, a, hC1, hI1, hb1⟩; have HC := Aside0.mk hC1; have HI := Aside0.mk hI1; have HB := Aside0.mk hb1; obtain ⟨T0, hT0⟩ : ∃ T, textB (stP P a) = T := ⟨_, rfl⟩; have HS := Aside0.mk hT0; clear hT0 hC1 hI1 hb1)
    | (go_at_call 15; (with_reducible refine (At_calls c _ _ _ _ _ HC.out HI.out.book.some_).mono ?_); rintro e w' ⟨rfl, rfl⟩)
    | (go_at_call 19; have hS := State_calls2 n c _ _ _ _ _ (HE.out.below HB.out hnw) (Nat.le_trans hnw HB.out.size) HC.out HI.out; rw [HS.out] at hS; (with_reducible refine hS.mono ?_); clear hS; rintro e wS ⟨rfl, hbS⟩; have HC := Aside0.mk (HC.out.below hbS); have HB := Aside0.mk (HB.out.trans (hbS.mono HB.out.size)); clear hbS)
    | (go_at_call 16; (with_reducible refine (Path_calls c _ _ _ _ _ HC.out HI.out.ok).mono ?_); rintro e wP ⟨vX, rfl, hRX, hbP⟩; obtain ⟨AX, kX, rfl⟩ := Kd.R_slice hRX; have HX := Aside0.mk hRX; have HOX := Aside0.mk HC.out.own_lt; have HC := Aside0.mk (HC.out.below hbP); have HB := Aside0.mk (HB.out.trans (hbP.mono HB.out.size)); clear hbP; clear hRX)
    | (go_at_call 23; (with_reducible refine (New_calls _).mono ?_); rintro e wN ⟨d, vd, b, rfl, hD, hbN⟩; have HDC := Aside0.mk hD; have HBD := Aside0.mk hbN; clear hD hbN))
  have HIP := HI
  have hLL := pathP_len HI.out
  go_loopg [26] (pathP P a).length (fun gg s26 W => ∃ (k : Nat) (Q : List Page) (vq : Value), s26 = .int .i64 k ∧ k ≤ (pathP P a).length ∧ Aside0 ((pathP P a).length - k ≤ gg) ∧ Aside0 (ChestAt W wP.heap.size d vq Q k ∧ Replay P a k Q ∧ Below wP.heap.size wP W))
  case atStart => exact ⟨0, _, vd, rfl, Nat.zero_le _, ⟨by omega⟩, ⟨HDC.out, Replay.start HI.out b, HBD.out⟩⟩
  case round =>
    obtain ⟨k, Q, vq, rfl, hk, hgk, HRP⟩ := hrel
    rcases Nat.lt_or_ge k (pathP P a).length with hlt | hge
    · have hltz : (k : Int) < ((pathP P a).length : Int) := by omega
      have hk0 : (0 : Int) ≤ (k : Int) := by omega
      obtain ⟨gx, cx, ex, hcx⟩ := strs_cells HX.out (by omega)
      injection ex with ex1 ex2 ex3
      subst ex1
      subst ex3
      have hxk := (HRP.out.2.2.cell (World.block_lt_of_cell? _ _ (hcx k hlt))).trans (hcx k hlt)
      rw [Nat.zero_add] at hxk
      have HST := Aside0.mk (fun q => HRP.out.2.1.step HI.out hlt q)
      have hls := pathP_size HI.out _ (getD_mem (z := ByteArray.empty) hlt)
      have hD := Do_calls2 n d vq Q k wP.heap.size ((pathP P a).getD k ByteArray.empty) wr (HE.out.below (HB.out.trans (HRP.out.2.2.mono HB.out.size)) hnw) (Nat.le_trans hnw (HB.out.trans (HRP.out.2.2.mono HB.out.size)).size) HRP.out.1 HRP.out.2.1.inv HRP.out.2.2.size (by omega)
      rw [(HST.out 0).1] at hD
      generalize (doP doF Q k ((pathP P a).getD k ByteArray.empty) 0).2.2.1 = rp at hD
      generalize (pathP P a).getD k ByteArray.empty = line at hxk hD HST
      unfold DoneR at hD
      have HDO := Aside0.mk hD
      clear hD hcx hls
      go_wp2_with (go_at_call 9; (with_reducible refine HDO.out.mono ?_); rintro e w4 ⟨rfl, q, v4, hC4, hL4, hN4⟩; obtain ⟨_, e2, hR4⟩ := HST.out q; rw [e2] at hC4; have H4 := Aside0.mk (And.intro hC4 (And.intro hR4 (HRP.out.2.2.trans hL4.1))); clear hC4 hL4 hN4 e2 hR4)
      go_roundg ((pathP P a).length - (k + 1))
      case measure => have := hgk.out; omega
      case rel => exact ⟨k + 1, _, v4, by go_num, by omega, ⟨Nat.le_refl _⟩, H4⟩
    · have hltz : ¬ (k : Int) < ((pathP P a).length : Int) := by omega
      obtain rfl : k = (pathP P a).length := by omega
      have HDC := Aside0.mk HRP.out.1
      have HQI := Aside0.mk HRP.out.2.1.inv
      have HBD := Aside0.mk HRP.out.2.2
      have HXD := Aside0.mk (Kd.R_below HX.out HRP.out.2.2)
      have HST0 := Aside0.mk (show textB (stP Q (pathP P a).length) = T0 by rw [HRP.out.2.1.st, way_at HI.out]; exact HS.out)
      have HPE := Aside0.mk (show pathP Q (pathP P a).length = pathP P a by rw [HRP.out.2.1.path, List.take_length])
      go_wp2_with (first
    | (go_at_call 19; have hS := State_calls2 n d _ _ _ _ _ (HE.out.below (HB.out.trans (HBD.out.mono HB.out.size)) hnw) (Nat.le_trans hnw (HB.out.trans (HBD.out.mono HB.out.size)).size) HDC.out HQI.out; rw [HST0.out] at hS; (with_reducible refine hS.mono ?_); clear hS; rintro e wS ⟨rfl, hbS⟩; have HDC := Aside0.mk (HDC.out.below hbS); have HXD := Aside0.mk (Kd.R_below HXD.out hbS); have HBD := Aside0.mk (HBD.out.trans (hbS.mono HBD.out.size)); clear hbS)
    | (go_at_call 16; (with_reducible refine (Path_calls d _ _ _ _ _ HDC.out HQI.out.ok).mono ?_); rintro e wQ ⟨vY, rfl, hRY, hbQ⟩; have HY := Aside0.mk hRY; have HDC := Aside0.mk (HDC.out.below hbQ); have HXD := Aside0.mk (Kd.R_below HXD.out hbQ); have HBD := Aside0.mk (HBD.out.trans (hbQ.mono HBD.out.size)); clear hbQ; clear hRY)
    | (go_at_call 25; have hQ := eqStr_calls HY.out HXD.out (Nat.le_trans (pathP_len HQI.out) (by decide)) (Nat.le_trans (pathP_len HIP.out) (by decide)); rw [decide_eq_true HPE.out] at hQ; (with_reducible refine hQ.mono ?_); clear hQ; rintro e w9 ⟨rfl, hb9⟩; have HDC := Aside0.mk (HDC.out.below hb9); have HXD := Aside0.mk (Kd.R_below HXD.out hb9); have HBD := Aside0.mk (HBD.out.trans (hb9.mono HBD.out.size)); clear hb9)
    | (go_at_call 15; (with_reducible refine (At_calls d _ _ _ _ _ HDC.out HQI.out.book.some_).mono ?_); rintro e w' ⟨rfl, rfl⟩))
      have HC := Aside0.mk (HC.out.below HBD.out)
      have HB := Aside0.mk (HB.out.trans (HBD.out.mono HB.out.size))
      have HX := HXD
      have HIN := Aside0.mk (show inP P.length (a : Int) = true by unfold inP; rw [decide_eq_true]; have := HIP.out.at_; omega)
      have hG := Go_calls c _ _ _ _ other _ HC.out HI.out.book.some_ HB.out.size
      cases hi : inP P.length other with
      | true =>
        rw [if_pos hi, if_pos hi] at hG
        obtain ⟨m, rfl, hm⟩ := inP_nat hi
        rw [Int.toNat_natCast] at hG
        have HGO := Aside0.mk hG
        clear hG hi hpl
        go_wp2_with (first
    | (go_at_call 13; (with_reducible refine HGO.out.mono ?_); rintro e wG ⟨rfl, hCG, hLG⟩; have HX := Aside0.mk (row_kept HX.out hLG.2 HOX.out.1 HOX.out.2); have HC := Aside0.mk hCG; have HI := Aside0.mk (HI.out.go hm); have HB := Aside0.mk (HB.out.trans hLG.1); clear hCG hLG)
    | (go_at_call 15; (with_reducible refine (At_calls c _ _ _ _ _ HC.out HI.out.book.some_).mono ?_); rintro e w' ⟨rfl, rfl⟩)
    | (go_at_call 13; have hG := Go_calls c _ _ _ _ (a : Int) _ HC.out HI.out.book.some_ HB.out.size; rw [if_pos HIN.out, if_pos HIN.out, Int.toNat_natCast] at hG; (with_reducible refine hG.mono ?_); clear hG; rintro e wG ⟨rfl, hCG, hLG⟩; have HC := Aside0.mk hCG; have HI := Aside0.mk (HI.out.go HIP.out.at_); have HB := Aside0.mk (HB.out.trans hLG.1); have HX := Aside0.mk (row_kept HX.out hLG.2 HOX.out.1 HOX.out.2); clear hCG hLG)
    | (go_at_call 19; have hS := State_calls2 n c _ _ _ _ _ (HE.out.below HB.out hnw) (Nat.le_trans hnw HB.out.size) HC.out HI.out; rw [HS.out] at hS; (with_reducible refine hS.mono ?_); clear hS; rintro e wS ⟨rfl, hbS⟩; have HC := Aside0.mk (HC.out.below hbS); have HB := Aside0.mk (HB.out.trans (hbS.mono HB.out.size)); (try (have HX := Aside0.mk (Kd.R_below HX.out hbS))); clear hbS)
    | (go_at_call 16; (with_reducible refine (Path_calls c _ _ _ _ _ HC.out HI.out.ok).mono ?_); rintro e wZ ⟨vHZ, rfl, hRX, hbP⟩; have HZ := Aside0.mk hRX; have HOHZ := Aside0.mk HC.out.own_lt; have HC := Aside0.mk (HC.out.below hbP); have HB := Aside0.mk (HB.out.trans (hbP.mono HB.out.size)); (try (have HX := Aside0.mk (Kd.R_below HX.out hbP))); clear hbP; clear hRX)
    | (go_at_call 25; have hQ := eqStr_calls HZ.out HX.out (Nat.le_trans (pathP_len HIP.out) (by decide)) (Nat.le_trans (pathP_len HIP.out) (by decide)); rw [decide_eq_true rfl] at hQ; (with_reducible refine hQ.mono ?_); clear hQ; rintro e w9 ⟨rfl, hb9⟩; have HC := Aside0.mk (HC.out.below hb9); have HB := Aside0.mk (HB.out.trans (hb9.mono HB.out.size)); clear hb9)
    | (go_at_call 14; have hK := Back_calls c _ _ _ _ ((pathP P a).length : Int) _ HC.out HI.out.ok HB.out.size (by have := pathP_len HIP.out; omega); unfold BackR at hK; rw [(back_all HIP.out).1, (back_all HIP.out).2] at hK; (with_reducible refine hK.mono ?_); clear hK; rintro e w10 ⟨rfl, hC10, hL10⟩; have HC := Aside0.mk hC10; have HI := Aside0.mk (HI.out.go HIP.out.book.some_); have HB := Aside0.mk (HB.out.trans hL10.1); clear hC10 hL10)
    | (go_at_call 14; have hK := Back_calls c _ _ _ _ 1 _ HC.out HI.out.ok HB.out.size (by decide); unfold BackR at hK; rw [(back_none P).1, (back_none P).2] at hK; (with_reducible refine hK.mono ?_); clear hK; rintro e w11 ⟨rfl, hC11, hL11⟩; have HC := Aside0.mk hC11; have HB := Aside0.mk (HB.out.trans hL11.1); clear hC11 hL11)
    | (go_at_call 20; (with_reducible refine (awake_calls n _ (HE.out.below HB.out hnw) (Nat.le_trans hnw HB.out.size)).mono ?_); rintro e wA ⟨rfl, hbA⟩; have HB := Aside0.mk (HB.out.trans (hbA.mono HB.out.size)); clear hbA))
        go_ret
        exact ⟨rfl, HB.out⟩
      | false =>
        rw [if_neg (by rw [hi]; simp), if_neg (by rw [hi]; simp)] at hG
        have HGO := Aside0.mk hG
        clear hG hi hpl
        go_wp2_with (first
    | (go_at_call 13; (with_reducible refine HGO.out.mono ?_); rintro e wG ⟨rfl, hCG, hLG⟩; have HX := Aside0.mk (row_kept HX.out hLG.2 HOX.out.1 HOX.out.2); have HC := Aside0.mk hCG; have HB := Aside0.mk (HB.out.trans hLG.1); clear hCG hLG)
    | (go_at_call 15; (with_reducible refine (At_calls c _ _ _ _ _ HC.out HI.out.book.some_).mono ?_); rintro e w' ⟨rfl, rfl⟩)
    | (go_at_call 13; have hG := Go_calls c _ _ _ _ (a : Int) _ HC.out HI.out.book.some_ HB.out.size; rw [if_pos HIN.out, if_pos HIN.out, Int.toNat_natCast] at hG; (with_reducible refine hG.mono ?_); clear hG; rintro e wG ⟨rfl, hCG, hLG⟩; have HC := Aside0.mk hCG; have HI := Aside0.mk (HI.out.go HIP.out.at_); have HB := Aside0.mk (HB.out.trans hLG.1); have HX := Aside0.mk (row_kept HX.out hLG.2 HOX.out.1 HOX.out.2); clear hCG hLG)
    | (go_at_call 19; have hS := State_calls2 n c _ _ _ _ _ (HE.out.below HB.out hnw) (Nat.le_trans hnw HB.out.size) HC.out HI.out; rw [HS.out] at hS; (with_reducible refine hS.mono ?_); clear hS; rintro e wS ⟨rfl, hbS⟩; have HC := Aside0.mk (HC.out.below hbS); have HB := Aside0.mk (HB.out.trans (hbS.mono HB.out.size)); (try (have HX := Aside0.mk (Kd.R_below HX.out hbS))); clear hbS)
    | (go_at_call 16; (with_reducible refine (Path_calls c _ _ _ _ _ HC.out HI.out.ok).mono ?_); rintro e wZ ⟨vHZ, rfl, hRX, hbP⟩; have HZ := Aside0.mk hRX; have HOHZ := Aside0.mk HC.out.own_lt; have HC := Aside0.mk (HC.out.below hbP); have HB := Aside0.mk (HB.out.trans (hbP.mono HB.out.size)); (try (have HX := Aside0.mk (Kd.R_below HX.out hbP))); clear hbP; clear hRX)
    | (go_at_call 25; have hQ := eqStr_calls HZ.out HX.out (Nat.le_trans (pathP_len HIP.out) (by decide)) (Nat.le_trans (pathP_len HIP.out) (by decide)); rw [decide_eq_true rfl] at hQ; (with_reducible refine hQ.mono ?_); clear hQ; rintro e w9 ⟨rfl, hb9⟩; have HC := Aside0.mk (HC.out.below hb9); have HB := Aside0.mk (HB.out.trans (hb9.mono HB.out.size)); clear hb9)
    | (go_at_call 14; have hK := Back_calls c _ _ _ _ ((pathP P a).length : Int) _ HC.out HI.out.ok HB.out.size (by have := pathP_len HIP.out; omega); unfold BackR at hK; rw [(back_all HIP.out).1, (back_all HIP.out).2] at hK; (with_reducible refine hK.mono ?_); clear hK; rintro e w10 ⟨rfl, hC10, hL10⟩; have HC := Aside0.mk hC10; have HI := Aside0.mk (HI.out.go HIP.out.book.some_); have HB := Aside0.mk (HB.out.trans hL10.1); clear hC10 hL10)
    | (go_at_call 14; have hK := Back_calls c _ _ _ _ 1 _ HC.out HI.out.ok HB.out.size (by decide); unfold BackR at hK; rw [(back_none P).1, (back_none P).2] at hK; (with_reducible refine hK.mono ?_); clear hK; rintro e w11 ⟨rfl, hC11, hL11⟩; have HC := Aside0.mk hC11; have HB := Aside0.mk (HB.out.trans hL11.1); clear hC11 hL11)
    | (go_at_call 20; (with_reducible refine (awake_calls n _ (HE.out.below HB.out hnw) (Nat.le_trans hnw HB.out.size)).mono ?_); rintro e wA ⟨rfl, hbA⟩; have HB := Aside0.mk (HB.out.trans (hbA.mono HB.out.size)); clear hbA))
        go_ret
        exact ⟨rfl, HB.out⟩
end Go.Proofs.YtccnfbjdpgmlhaaGreatDoor
