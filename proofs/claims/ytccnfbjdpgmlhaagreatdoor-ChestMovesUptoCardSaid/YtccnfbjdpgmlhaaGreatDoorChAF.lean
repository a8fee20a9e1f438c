/- Walks of the chest: ask at 'gap', Ask, State. -/
import Derived.Test.YtccnfbjdpgmlhaaGreatDoorChAE
import Derived.Test.YtccnfbjdpgmlhaaGreatDoorChAD
import Derived.Test.YtccnfbjdpgmlhaaGreatDoorChX
namespace Go.Proofs.YtccnfbjdpgmlhaaGreatDoor
open Go.RowKit Go.Proofs.YtccnfbjdpgmlhaaGreatDoorW.PrintWords Go.Proofs.YtccnfbjdpgmlhaaGreatDoorW.PrintLast Go.Proofs.YtccnfbjdpgmlhaaGreatDoorW.PrintMore
set_option linter.unusedVariables false
set_option linter.unusedSimpArgs false

/-- words and a code. -/
def ListR (r : List ByteArray × Int) (w : World) (e : Ending) (w' : World) : Prop :=
  ∃ v, e = .returned (.tuple #[v, .int .i64 r.2]) ∧ Kd.R Kd.string 9 w' w.heap.size Tt v r.1 ∧ Below w.heap.size w w'
theorem ListR.mk {r : List ByteArray × Int} {l : List ByteArray} {k : Int} {v : Value} {w w' : World} {e : Ending} (h : r = (l, k)) (he : e = .returned (.tuple #[v, .int .i64 k])) (hR : Kd.R Kd.string 9 w' w.heap.size Tt v l) (hb : Below w.heap.size w w') : ListR r w e w' := by
  subst h; exact ⟨v, he, hR, hb⟩
def gapA (s : St) : List ByteArray × Int := if s.leaves.length = 0 then ([], 4) else ([itoaB (gapF (stocksF s))], 0)
theorem stocks_small {s : St} (h : Nums s) : Small20 (stocksF s) := by
  intro x hx
  obtain ⟨i, hi, rfl⟩ := List.getElem_of_mem hx
  have h1 := h i (by rw [stocksF_length] at hi; exact hi)
  rw [← stocksF_getD s i (by rw [stocksF_length] at hi; exact hi), List.getD_eq_getElem?_getD, List.getElem?_eq_getElem hi] at h1
  exact h1
theorem readsInt_lit (W : World) (x : Int) : ReadsInt (W.alloc (.cells #[.int .i64 x] 3)) .i64 (some ⟨W.heap.size, 0, none⟩) 1 [x] :=
  ⟨rfl, by decide, fun _ => ⟨_, rfl, fun j hj => by
    obtain rfl : j = 0 := by omega
    exact (blk_cell (blk_new W _) 0).trans rfl⟩⟩
set_option maxHeartbeats 2000000 in
theorem gap_calls (n b base : Nat) (s : St) (An Ad : Option Addr) (ln kn ld kd : Nat) (w : World) (hE : Env n w) (hnw : n ≤ w.heap.size) (h : StAt w base b s) (hG : Good s) :
    Calls Tryz.prog 50 #[.pointer (some ⟨b, 0, none⟩), .agg #[.slice An ln kn, .slice Ad ld kd]] w (ListR (gapA s) w) := by
  obtain ⟨v1, v2, v3, hb, hbase, h1, h2, h3⟩ := h.parts
  obtain ⟨A, cap, rfl, hc, hC⟩ := Kd.R_reads h1
  have B0 := below_alloc (Below.refl w.heap.size w) (.cells #[.slice An ln kn, .slice Ad ld kd] 82)
  have c0 := (blk_cell (blk_below hb B0) 0).trans rfl
  simp only [List.getElem?_toArray, List.getElem?_cons_zero] at c0
  have HA := Aside0.mk (And.intro h (And.intro hG hE))
  have HST := Aside0.mk (fun (W : World) (hW : Below w.heap.size w W) => stocks_calls b base s W (h.below hW) hG.sized)
  have h6 := hG.sized.leaves
  clear h h1 h2 h3 hb hbase hC hE hG
  by_cases hl : s.leaves.length = 0
  · have E := Aside0.mk (show gapA s = ([], 4) by unfold gapA; rw [if_pos hl])
    have hB0 := Aside0.mk B0
    rw [hl] at c0
    go_enter Tryz.func50, Tryz.ntmps50
    go_wp2
    go_ret2
    exact ListR.mk E.out rfl (Kd.R_nil _ _ _ _ _) hB0.out
  · have E := Aside0.mk (show gapA s = ([itoaB (gapF (stocksF s))], 0) by unfold gapA; rw [if_neg hl])
    have hlb : ((s.leaves.length : Int) == 0) = false := by simp; intro hh; exact hl (by rw [hh]; rfl)
    have hB0 := Aside0.mk B0
    have HSL := Aside0.mk (stocksF_length s)
    have HSM := Aside0.mk (stocks_small HA.out.2.1.nums)
    have hgb := gapN_bound HSM.out (stocksF s).length (by rw [HSL.out]; exact h6)
    have HGB := Aside0.mk (show -9223372036854775808 ≤ gapF (stocksF s) ∧ gapF (stocksF s) ≤ 9223372036854775807 by unfold gapF; rw [HSL.out] at hgb ⊢; omega)
    clear hgb
    go_enter Tryz.func50, Tryz.ntmps50
    go_wp2_with (first
      | (go_at_call 75; (with_reducible refine (HST.out _ hB0.out).mono ?_); rintro e w1 ⟨v1, rfl, hR1, hb1⟩; obtain ⟨g1, k1, rfl, hgg1, hgl1, _⟩ := Kd.R_form hR1 (by rw [HSL.out]; omega); obtain ⟨_, hlc1, _⟩ := Kd.R_reads' hR1; have HB1 := Aside0.mk (hB0.out.trans (hb1.mono hB0.out.size)); have HGC := Aside0.mk (Gap_calls g1 k1 (stocksF s) w1 (by rw [HSL.out]; omega) (by rw [HSL.out]; exact h6) hlc1 HSM.out (fun j hj => by have := (Kd.R_cell 0 hR1 (j : Int) (by omega) (by omega)).1; rw [Int.toNat_natCast] at this; exact this)); clear hR1 hb1 hlc1 hgg1 hgl1)
      | (go_at_call 82; (with_reducible refine HGC.out.mono ?_); rintro e w2 ⟨rfl, hb2⟩; have HB2 := Aside0.mk (HB1.out.trans (hb2.mono HB1.out.size)); clear hb2)
      | (go_at_call 67; go_loud (refine (show Calls _ _ _ _ _ from numbers_calls n _ 1 [gapF (stocksF s)] _ (HA.out.2.2.below (below_alloc HB2.out _) hnw) (Nat.le_trans hnw (below_alloc HB2.out _).size) (readsInt_lit _ _) (fun x hx => by rw [List.mem_singleton.mp hx]; exact HGB.out) (by simp)).mono ?_); rintro e w3 ⟨v3, rfl, hR3, hb3⟩; have HR3 := Aside0.mk hR3; have HB3 := Aside0.mk hb3; clear hb3 hR3))
    go_ret2
    exact ListR.mk E.out rfl (Kd.R_lower HR3.out (below_alloc HB2.out _).size) ((below_alloc HB2.out _).trans (HB3.out.mono (below_alloc HB2.out _).size))
abbrev kGapW : List UInt8 := [103, 97, 112]
abbrev gapWB : ByteArray := ⟨#[103, 97, 112]⟩
/-- the answer to 'gap'. -/
def askGapF (s : St) (text : ByteArray) : ByteArray × Int := match readF ⟨#[]⟩ text with
  | none => (⟨#[]⟩, 3)
  | some _ => if (gapA s).2 = 0 then (joinB (gapWB :: (gapA s).1), 0) else (⟨#[]⟩, (gapA s).2)
def AskR (r : ByteArray × Int) (w : World) (e : Ending) (w' : World) : Prop :=
  e = .returned (.tuple #[.string r.1, .int .i64 r.2]) ∧ Below w.heap.size w w'
theorem AskR.mk {r : ByteArray × Int} {x : ByteArray} {k : Int} {w w' : World} {e : Ending} (h : r = (x, k)) (he : e = .returned (.tuple #[.string x, .int .i64 k])) (hb : Below w.heap.size w w') : AskR r w e w' := by
  subst h; exact ⟨he, hb⟩
set_option maxRecDepth 100000 in
set_option maxHeartbeats 4000000 in
theorem ask_gap (n b base : Nat) (s : St) (text : ByteArray) (w : World) (hE : Env n w) (hnw : n ≤ w.heap.size) (ht : text.size ≤ 1048576) (h : StAt w base b s) (hG : Good s) (hw : wordL text = kGapW) :
    Calls Tryz.prog 32 #[.pointer (some ⟨b, 0, none⟩), .string text] w (AskR (askGapF s text) w) := by
  have hcut := cut_calls n text w hE ht
  rw [hw] at hcut
  unfold kGapW at hcut
  have hrd := Aside0.mk (fun (W : World) (hW : Below w.heap.size w W) => read_calls n ⟨#[]⟩ text W (hE.below hW hnw) (Nat.le_trans hnw hW.size) (by decide) ht)
  have HG := Aside0.mk (fun (W : World) (hW : Below w.heap.size w W) (An Ad : Option Addr) (ln kn ld kd : Nat) => gap_calls n b base s An Ad ln kn ld kd W (hE.below hW hnw) (Nat.le_trans hnw hW.size) (h.below hW) hG)
  have HGL := Aside0.mk (show ∀ x ∈ (gapA s).1, x.size ≤ 1000 from fun x hx => by
    have hgb := gapN_bound (stocks_small hG.nums) (stocksF s).length (by rw [stocksF_length]; exact hG.sized.leaves)
    have h6 := hG.sized.leaves
    rw [stocksF_length] at hgb
    unfold gapA at hx
    split at hx
    · simp at hx
    · rw [List.mem_singleton.mp hx]
      have := itoa_len (n := gapF (stocksF s)) (by unfold gapF; rw [stocksF_length]; omega) (by unfold gapF; rw [stocksF_length]; omega)
      omega)
  have HLN := Aside0.mk (show (gapA s).1.length ≤ 4 by unfold gapA; split <;> simp)
  clear h hE hG hw
  cases hr : readF ⟨#[]⟩ text with
  | none =>
    have HR := Aside0.mk hr
    have E := Aside0.mk (show askGapF s text = (⟨#[]⟩, 3) by unfold askGapF; rw [hr])
    clear hr
    go_enter Tryz.func32, Tryz.ntmps32
    go_wp2_with (first
      | (go_at_call 40; (with_reducible refine hcut.mono ?_); rintro e w1 ⟨⟨r, bb, rfl⟩, hb1⟩; have HB1 := Aside0.mk hb1; clear hb1)
      | (go_at_call 47; (with_reducible refine (hrd.out _ HB1.out).mono ?_); rintro e w3 hr3; obtain ⟨rfl, hb3⟩ := ReadR.none_ HR.out hr3; have HB3 := Aside0.mk (HB1.out.trans (hb3.mono HB1.out.size)); clear hb3 hr3))
    go_ret2
    exact AskR.mk E.out rfl (below_alloc HB3.out _)
  | some p =>
    obtain ⟨ns, ds⟩ := p
    have HR := Aside0.mk hr
    have HF := Aside0.mk (show askGapF s text = if (gapA s).2 = 0 then (joinB (gapWB :: (gapA s).1), 0) else (⟨#[]⟩, (gapA s).2) by unfold askGapF; rw [hr])
    clear hr
    unfold ListR at HG
    generalize gapA s = r at HG HGL HLN HF
    obtain ⟨l, k⟩ := r
    simp only at HG HGL HLN HF
    by_cases hk : k = 0
    · subst hk
      have E := Aside0.mk (show askGapF s text = (joinB ([gapWB] ++ l), 0) by rw [HF.out, if_pos rfl]; rfl)
      have HSG := Aside0.mk (strs_lit)
      have HLS := Aside0.mk (show ([gapWB] ++ l).length = l.length + 1 by simp)
      go_enter Tryz.func32, Tryz.ntmps32
      go_wp2_with (first
        | (go_at_call 40; (with_reducible refine hcut.mono ?_); rintro e w1 ⟨⟨r, bb, rfl⟩, hb1⟩; have HB1 := Aside0.mk hb1; clear hb1)
        | (go_at_call 47; (with_reducible refine (hrd.out _ HB1.out).mono ?_); rintro e w3 hr3; obtain ⟨vn, vd, rfl, hL3, hb3⟩ := ReadR.some_ HR.out hr3; obtain ⟨An, kn, Ad, kd, rfl, rfl⟩ := hL3.forms; have HB3 := Aside0.mk (HB1.out.trans (hb3.mono HB1.out.size)); have HB4 := Aside0.mk (below_alloc HB3.out (.cells #[.slice An ns.length kn, .slice Ad ds.length kd] 82)); clear hb3 hr3 hL3)
        | (go_at_call 50; (with_reducible refine (HG.out _ HB4.out _ _ _ _ _ _).mono ?_); rintro e w5 ⟨v5, rfl, hR5, hb5⟩; obtain ⟨A5, c5, rfl, hlc5, hC5⟩ := Kd.R_reads hR5; have HB5 := Aside0.mk (HB4.out.trans (hb5.mono HB4.out.size)); have HL5 := Aside0.mk (strs_lit w5 w5.heap.size gapWB (Nat.le_refl _)); have hx5 := below_alloc (Below.refl w5.heap.size w5) (.cells #[.string gapWB] 9); have HX5 := Aside0.mk hx5; have HC5 := Aside0.mk (show ReadsRow (Kd.string.K (w5.alloc (.cells #[.string gapWB] 9))) 1 (w5.alloc (.cells #[.string gapWB] 9)) A5 l.length l from Kd.C_below hC5 hx5); clear hR5 hb5 hC5 hlc5 hx5)
        | (at_builtin; refine Kd.R_append_rows Kd.string (w0 := w5) (Rr := Kd.string.K (w5.alloc (.cells #[.string gapWB] 9))) w5.heap.size rfl (.tmp 70) (.tmp 71) 35 9 (.string ByteArray.empty) 16 rfl Tryz.underlying35 infoStr rfl (by decide) (by omega) (.slice (some ⟨w5.heap.size, 0, none⟩) 1 1) [gapWB] l A5 l.length c5 Tt (fun _ => False) rfl rfl HL5.out HC5.out (fun _ _ h => h) (fun _ hk => hk.elim) (fun _ _ => trivial) HX5.out HX5.out.size (by have := HLN.out; simp; omega) ?_; intro v6 w6 hR6 hb6 hg6 hat6; obtain ⟨g6, k6, rfl, hgg6, hgl6, _⟩ := Kd.R_form hR6 (by simp); have HB6 := Aside0.mk (HB5.out.trans (hb6.mono HB5.out.size)); have hjc := join_calls w5.heap.size g6 k6 ([gapWB] ++ l) w6 hR6 (by simp) (by have := HLN.out; simp; omega) (fun x hx => by
              rcases List.mem_append.mp hx with hx | hx
              · rw [List.mem_singleton.mp hx]; decide
              · exact Nat.le_trans (HGL.out x hx) (by omega)); rw [HLS.out] at hjc; have HJ := Aside0.mk hjc; clear hjc hR6 hb6 hg6 hat6 hgg6 hgl6)
        | (go_at_call 60; (with_reducible refine HJ.out.mono ?_); rintro e w7 ⟨rfl, hb7⟩; have HB7 := Aside0.mk (HB6.out.trans (hb7.mono HB6.out.size)); clear hb7))
      go_ret2
      exact AskR.mk E.out rfl HB7.out
    · have E := Aside0.mk (show askGapF s text = (⟨#[]⟩, k) by rw [HF.out, if_neg hk])
      have hkb : (k != 0) = true := by simp [hk]
      go_enter Tryz.func32, Tryz.ntmps32
      go_wp2_with (first
        | (go_at_call 40; (with_reducible refine hcut.mono ?_); rintro e w1 ⟨⟨r, bb, rfl⟩, hb1⟩; have HB1 := Aside0.mk hb1; clear hb1)
        | (go_at_call 47; (with_reducible refine (hrd.out _ HB1.out).mono ?_); rintro e w3 hr3; obtain ⟨vn, vd, rfl, hL3, hb3⟩ := ReadR.some_ HR.out hr3; obtain ⟨An, kn, Ad, kd, rfl, rfl⟩ := hL3.forms; have HB3 := Aside0.mk (HB1.out.trans (hb3.mono HB1.out.size)); have HB4 := Aside0.mk (below_alloc HB3.out (.cells #[.slice An ns.length kn, .slice Ad ds.length kd] 82)); clear hb3 hr3 hL3)
        | (go_at_call 50; (with_reducible refine (HG.out _ HB4.out _ _ _ _ _ _).mono ?_); rintro e w5 ⟨v5, rfl, hR5, hb5⟩; have HB5 := Aside0.mk (HB4.out.trans (hb5.mono HB4.out.size)); clear hR5 hb5))
      go_ret2
      exact AskR.mk E.out rfl HB5.out
set_option maxHeartbeats 2000000 in
theorem Ask_gap (n c : Nat) (v : Value) (P : List Page) (a base : Nat) (text : ByteArray) (w : World) (hE : Env n w) (hnw : n ≤ w.heap.size) (h : ChestAt w base c v P a) (hO : Ok P a) (hG : ∀ p ∈ P, Good p.st) (ht : text.size ≤ 1048576) (hw : wordL text = kGapW) :
    Calls Tryz.prog 10 #[.pointer (some ⟨c, 0, none⟩), .string text] w (AskR (askGapF (stP P a) text) w) := by
  have hat := hO.at_
  have hn := none_calls c v P a base w h (by omega)
  have hnow := now_calls c v P a base w h hat
  have hmem : P.getD a default ∈ P := getD_mem hat
  have hask := Aside0.mk (fun (W : World) (hW : Below w.heap.size w W) => ask_gap n (P.getD a default).ptr base (stP P a) text W (hE.below hW hnw) (Nat.le_trans hnw hW.size) ht ((h.below hW).2.2.2 _ hmem) (hG _ hmem) hw)
  unfold AskR at hask
  generalize (P.getD a default).ptr = pt at hnow hask
  have EQ := Aside0.mk (show AskR (askGapF (stP P a) text) w = fun e w' => e = .returned (.tuple #[.string (askGapF (stP P a) text).1, .int .i64 (askGapF (stP P a) text).2]) ∧ Below w.heap.size w w' from rfl)
  rw [EQ.out]
  generalize askGapF (stP P a) text = r at hask
  obtain ⟨x, k⟩ := r
  clear h hE hO hG hmem hw EQ
  go_enter Tryz.func10, Tryz.ntmps10
  go_wp2_with (first
    | (go_at_call 28; (with_reducible refine hn.mono ?_); rintro e w' ⟨rfl, rfl⟩)
    | (go_at_call 29; (with_reducible refine hnow.mono ?_); rintro e w1 ⟨rfl, hb1⟩; have HB1 := Aside0.mk hb1; clear hb1)
    | (go_at_call 32; (with_reducible refine (hask.out _ HB1.out).mono ?_); rintro e w2 ⟨rfl, hb2⟩; have HB2 := Aside0.mk (HB1.out.trans (hb2.mono HB1.out.size)); clear hb2))
  go_ret2
  exact ⟨rfl, HB2.out⟩
set_option maxHeartbeats 2000000 in
theorem State_calls (n c : Nat) (v : Value) (P : List Page) (a base : Nat) (w : World) (hE : Env n w) (hnw : n ≤ w.heap.size) (h : ChestAt w base c v P a) (hO : Ok P a) (hG : ∀ p ∈ P, Good p.st) :
    Calls Tryz.prog 19 #[.pointer (some ⟨c, 0, none⟩)] w fun e w' => e = .returned (.string ⟨(textF (stP P a)).toArray⟩) ∧ Below w.heap.size w w' := by
  have hat := hO.at_
  have hn := none_calls c v P a base w h (by omega)
  have hnow := now_calls c v P a base w h hat
  have hmem : P.getD a default ∈ P := getD_mem hat
  have htx := Aside0.mk (fun (W : World) (hW : Below w.heap.size w W) => text_calls n (P.getD a default).ptr base (stP P a) W (hE.below hW hnw) (Nat.le_trans hnw hW.size) ((h.below hW).2.2.2 _ hmem) (hG _ hmem))
  generalize (P.getD a default).ptr = pt at hnow htx
  generalize textF (stP P a) = t at htx
  clear h hE hO hG hmem
  go_enter Tryz.func19, Tryz.ntmps19
  go_wp2_with (first
    | (go_at_call 28; (with_reducible refine hn.mono ?_); rintro e w' ⟨rfl, rfl⟩)
    | (go_at_call 29; (with_reducible refine hnow.mono ?_); rintro e w1 ⟨rfl, hb1⟩; have HB1 := Aside0.mk hb1; clear hb1)
    | (go_at_call 36; (with_reducible refine (htx.out _ HB1.out).mono ?_); rintro e w2 ⟨rfl, hb2⟩; have HB2 := Aside0.mk (HB1.out.trans (hb2.mono HB1.out.size)); clear hb2))
  go_ret
  exact ⟨rfl, HB2.out⟩
end Go.Proofs.YtccnfbjdpgmlhaaGreatDoor
