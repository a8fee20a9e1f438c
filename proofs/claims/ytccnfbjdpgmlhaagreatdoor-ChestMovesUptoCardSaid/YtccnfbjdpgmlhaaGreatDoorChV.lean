/- Walks of the chest: do. -/
import Derived.Test.YtccnfbjdpgmlhaaGreatDoorChU
import Derived.Test.YtccnfbjdpgmlhaaGreatDoorChQ
namespace Go.Proofs.YtccnfbjdpgmlhaaGreatDoor
open Go.RowKit Go.Proofs.YtccnfbjdpgmlhaaGreatDoorW.PrintWords Go.Proofs.YtccnfbjdpgmlhaaGreatDoorW.PrintLast Go.Proofs.YtccnfbjdpgmlhaaGreatDoorW.PrintMore
set_option linter.unusedVariables false
set_option linter.unusedSimpArgs false

def DoR (s : St) (text : ByteArray) (b base : Nat) (w : World) (e : Ending) (w' : World) : Prop :=
  (∃ b', e = .returned (.tuple #[.pointer (some ⟨b', 0, none⟩), .string (doF s text).2.1, .int .i64 (doF s text).2.2]) ∧ StAt w' base b' (doF s text).1) ∧ Below w.heap.size w w'
theorem DoR.mk {s : St} {text : ByteArray} {b base b' : Nat} {w w' : World} {e : Ending} {s' : St} {r : ByteArray} {c : Int} (h : doF s text = (s', r, c)) (he : e = .returned (.tuple #[.pointer (some ⟨b', 0, none⟩), .string r, .int .i64 c])) (hs : StAt w' base b' s') (hb : Below w.heap.size w w') : DoR s text b base w e w' := by
  refine ⟨⟨b', ?_, ?_⟩, hb⟩
  · rw [h]; exact he
  · rw [h]; exact hs
theorem ReadR.none_ {form text : ByteArray} {w : World} {e : Ending} {w' : World} (h : readF form text = none) (hr : ReadR form text w e w') : e = .returned (.tuple #[.agg #[.slice none 0 0, .slice none 0 0], .bool false]) ∧ Below w.heap.size w w' := by
  unfold ReadR at hr; rw [h] at hr; exact ⟨hr.2, hr.1⟩
theorem ReadR.some_ {form text : ByteArray} {w : World} {e : Ending} {w' : World} {ns : List ByteArray} {ds : List Int} (h : readF form text = some (ns, ds)) (hr : ReadR form text w e w') : ∃ vn vd, e = .returned (.tuple #[.agg #[vn, vd], .bool true]) ∧ LineAt w' vn vd ns ds ∧ Below w.heap.size w w' := by
  unfold ReadR at hr; rw [h] at hr
  obtain ⟨vn, vd, h1, h2⟩ := hr.2
  exact ⟨vn, vd, h1, h2, hr.1⟩
theorem LineAt.forms {w : World} {vn vd : Value} {ns : List ByteArray} {ds : List Int} (h : LineAt w vn vd ns ds) : ∃ A c A' c', vn = .slice A ns.length c ∧ vd = .slice A' ds.length c' := by
  obtain ⟨base, h1, h2⟩ := h
  obtain ⟨A, c, rfl⟩ := Kd.R_slice h1
  obtain ⟨A', c', rfl⟩ := Kd.R_slice h2
  exact ⟨A, c, A', c', rfl, rfl⟩
theorem doG_none (s : St) (wl : List UInt8) (act : List ByteArray → List Int → St × Int) : doG s wl none act = (s, ByteArray.empty, 3) := rfl
theorem doG_bad (s : St) (wl : List UInt8) (act : List ByteArray → List Int → St × Int) {ns : List ByteArray} {ds : List Int} (h : (act ns ds).2 ≠ 0) : doG s wl (some (ns, ds)) act = (s, ByteArray.empty, (act ns ds).2) := by
  unfold doG; dsimp only; rw [if_neg h]
theorem doG_good' (s : St) (wl : List UInt8) (act : List ByteArray → List Int → St × Int) {ns : List ByteArray} {ds : List Int} (h : (act ns ds).2 = 0) : doG s wl (some (ns, ds)) act = ((act ns ds).1, ⟨wl.toArray⟩, 0) := by
  unfold doG; dsimp only; rw [if_pos h]
theorem cut_calls (n : Nat) (s : ByteArray) (w : World) (hE : Env n w) (hs : s.size ≤ 1048576) :
    Calls Tryz.prog 40 #[.string s, .string spc] w fun e w' => (∃ r b, e = .returned (.tuple #[.string ⟨(wordL s).toArray⟩, .string r, .bool b])) ∧ Below w.heap.size w w' := by
  obtain ⟨m, hm⟩ := hE.max
  exact (Tryz.strings_Cut s spc m w (by omega) hm).mono (fun e w' h => ⟨⟨_, _, h.1⟩, by obtain ⟨k, hk⟩ := h.2; rw [hk]; exact pw_below_drewN (Below.refl _ _) _⟩)
set_option maxRecDepth 100000 in
set_option maxHeartbeats 4000000 in
theorem do_leaf (n b base : Nat) (s : St) (text : ByteArray) (w : World) (hE : Env n w) (hnw : n ≤ w.heap.size) (ht : text.size ≤ 1048576) (h : StAt w base b s) (hG : Good s) (hbs : base ≤ w.heap.size) (hw : wordL text = kLeafW) :
    Calls Tryz.prog 30 #[.pointer (some ⟨b, 0, none⟩), .string text] w (DoR s text b base w) := by
  have hcut := cut_calls n text w hE ht
  rw [hw] at hcut
  have hF : doF s text = doG s kLeafW (readF ⟨#[110, 100]⟩ text) (leafF s) := by
    unfold doF
    simp only [hw, kLeafW, kGiveW, kOrderW, kTasteW, kOfferW]
    simp
  unfold kLeafW at hcut
  have hcl := Aside0.mk (fun (W : World) (hW : Below w.heap.size w W) => clone_calls b base s W (h.below hW) hG.sized)
  have hrd := Aside0.mk (fun (W : World) (hW : Below w.heap.size w W) => read_calls n ⟨#[110, 100]⟩ text W (hE.below hW hnw) (Nat.le_trans hnw hW.size) (by decide) ht)
  have HA := Aside0.mk (And.intro h (And.intro hG hbs))
  clear h hE hw hbs
  cases hr : readF ⟨#[110, 100]⟩ text with
  | none =>
    have E := Aside0.mk (show doF s text = (s, ByteArray.empty, 3) by rw [hF, hr]; rfl)
    have HR := Aside0.mk hr
    clear hr hF
    go_enter Tryz.func30, Tryz.ntmps30
    go_wp2_with (first
      | (go_at_call 40; (with_reducible refine hcut.mono ?_); rintro e w1 ⟨⟨r, bb, rfl⟩, hb1⟩; have HB1 := Aside0.mk hb1; clear hb1)
      | (go_at_call 41; (with_reducible refine (hcl.out _ HB1.out).mono ?_); rintro e w2 ⟨b1, rfl, hS2, hb2⟩; have HB2 := Aside0.mk (HB1.out.trans (hb2.mono HB1.out.size)); clear hb2 hS2)
      | (go_at_call 47; (with_reducible refine (hrd.out _ HB2.out).mono ?_); rintro e w3 hr3; obtain ⟨rfl, hb3⟩ := ReadR.none_ HR.out hr3; have HB3 := Aside0.mk (HB2.out.trans (hb3.mono HB2.out.size)); clear hb3 hr3))
    go_ret3
    exact DoR.mk E.out rfl (HA.out.1.below (below_alloc HB3.out _)) (below_alloc HB3.out _)
  | some p =>
    obtain ⟨ns, ds⟩ := p
    have HR := Aside0.mk hr
    have hgo := Aside0.mk (fun (w1 W : World) (b1 : Nat) (vn vd : Value) (hS : StAt W w1.heap.size b1 s) (hL : LineAt W vn vd ns ds) (hz : w1.heap.size ≤ W.heap.size) => (show Calls Tryz.prog 42 #[.pointer (some ⟨b1, 0, none⟩), .agg #[vn, vd]] W (ActR ((leafF s : List ByteArray → List Int → St × Int) ns ds) b1 w1.heap.size W) from by
      obtain ⟨h1, h2, h3, h4, h5⟩ := readF_counts HR.out
      have c1 : ((⟨#[110, 100]⟩ : ByteArray).data.toList.count 110 = 1) := by decide
      have c2 : ((⟨#[110, 100]⟩ : ByteArray).size = 2) := by decide
      rw [c1] at h1 h2
      rw [c2] at h2
      exact leaf_calls b1 w1.heap.size s vn vd ns ds W hS hG.sized hL (by omega) (by omega) hz))
    have HF := Aside0.mk (show doF s text = doG s kLeafW (some (ns, ds)) (leafF s) by rw [hF, hr])
    clear hr hF
    generalize hact : (leafF s : List ByteArray → List Int → St × Int) = act at hgo HF
    clear hact
    generalize hr2 : act ns ds = r2 at hgo
    obtain ⟨s2, c2⟩ := r2
    by_cases hc : c2 = 0
    · subst hc
      have E := Aside0.mk (show doF s text = (s2, ⟨#[108, 101, 97, 102]⟩, 0) by rw [HF.out, doG_good' _ _ _ (by rw [hr2]), hr2]; rfl)
      clear hr2
      go_enter Tryz.func30, Tryz.ntmps30
      go_wp2_with (first
        | (go_at_call 40; (with_reducible refine hcut.mono ?_); rintro e w1 ⟨⟨r, bb, rfl⟩, hb1⟩; have HB1 := Aside0.mk hb1; clear hb1)
        | (go_at_call 41; (with_reducible refine (hcl.out _ HB1.out).mono ?_); rintro e w2 ⟨b1, rfl, hS2, hb2⟩; have HS2 := Aside0.mk hS2; have HZ2 := Aside0.mk hb2.size; have HB2 := Aside0.mk (HB1.out.trans (hb2.mono HB1.out.size)); clear hb2 hS2)
        | (go_at_call 47; (with_reducible refine (hrd.out _ HB2.out).mono ?_); rintro e w3 hr3; obtain ⟨vn, vd, rfl, hL3, hb3⟩ := ReadR.some_ HR.out hr3; obtain ⟨An, kn, Ad, kd, rfl, rfl⟩ := hL3.forms; have HB3 := Aside0.mk (HB2.out.trans (hb3.mono HB2.out.size)); have HS3 := Aside0.mk ((HS2.out.below hb3).below (below_alloc (Below.refl w3.heap.size w3) (.cells #[.slice An ns.length kn, .slice Ad ds.length kd] 82))); have HL3 := Aside0.mk (hL3.below (below_alloc (Below.refl w3.heap.size w3) (.cells #[.slice An ns.length kn, .slice Ad ds.length kd] 82))); have HB4 := Aside0.mk (below_alloc HB3.out (.cells #[.slice An ns.length kn, .slice Ad ds.length kd] 82)); have HZ := Aside0.mk (show w1.heap.size ≤ (w3.alloc (.cells #[.slice An ns.length kn, .slice Ad ds.length kd] 82)).heap.size from Nat.le_trans (Nat.le_trans HZ2.out hb3.size) (below_alloc (Below.refl w3.heap.size w3) _).size); clear hb3 hr3 hL3)
        | (go_at_call 42; (with_reducible refine (hgo.out w1 _ b1 _ _ HS3.out HL3.out HZ.out).mono ?_); rintro e w5 ⟨rfl, hS5, hb5⟩; have HS5 := Aside0.mk hS5; have HB5 := Aside0.mk (HB4.out.trans (hb5.mono HB1.out.size)); clear hb5 hS5))
      go_ret3
      exact DoR.mk E.out rfl (HS5.out.lower (Nat.le_trans HA.out.2.2 HB1.out.size)) HB5.out
    · have E := Aside0.mk (show doF s text = (s, ByteArray.empty, c2) by rw [HF.out, doG_bad _ _ _ (by rw [hr2]; exact hc), hr2])
      have hcb : (c2 != 0) = true := by simp [hc]
      clear hr2 hc
      go_enter Tryz.func30, Tryz.ntmps30
      go_wp2_with (first
        | (go_at_call 40; (with_reducible refine hcut.mono ?_); rintro e w1 ⟨⟨r, bb, rfl⟩, hb1⟩; have HB1 := Aside0.mk hb1; clear hb1)
        | (go_at_call 41; (with_reducible refine (hcl.out _ HB1.out).mono ?_); rintro e w2 ⟨b1, rfl, hS2, hb2⟩; have HS2 := Aside0.mk hS2; have HZ2 := Aside0.mk hb2.size; have HB2 := Aside0.mk (HB1.out.trans (hb2.mono HB1.out.size)); clear hb2 hS2)
        | (go_at_call 47; (with_reducible refine (hrd.out _ HB2.out).mono ?_); rintro e w3 hr3; obtain ⟨vn, vd, rfl, hL3, hb3⟩ := ReadR.some_ HR.out hr3; obtain ⟨An, kn, Ad, kd, rfl, rfl⟩ := hL3.forms; have HB3 := Aside0.mk (HB2.out.trans (hb3.mono HB2.out.size)); have HS3 := Aside0.mk ((HS2.out.below hb3).below (below_alloc (Below.refl w3.heap.size w3) (.cells #[.slice An ns.length kn, .slice Ad ds.length kd] 82))); have HL3 := Aside0.mk (hL3.below (below_alloc (Below.refl w3.heap.size w3) (.cells #[.slice An ns.length kn, .slice Ad ds.length kd] 82))); have HB4 := Aside0.mk (below_alloc HB3.out (.cells #[.slice An ns.length kn, .slice Ad ds.length kd] 82)); have HZ := Aside0.mk (show w1.heap.size ≤ (w3.alloc (.cells #[.slice An ns.length kn, .slice Ad ds.length kd] 82)).heap.size from Nat.le_trans (Nat.le_trans HZ2.out hb3.size) (below_alloc (Below.refl w3.heap.size w3) _).size); clear hb3 hr3 hL3)
        | (go_at_call 42; (with_reducible refine (hgo.out w1 _ b1 _ _ HS3.out HL3.out HZ.out).mono ?_); rintro e w5 ⟨rfl, hS5, hb5⟩; have HS5 := Aside0.mk hS5; have HB5 := Aside0.mk (HB4.out.trans (hb5.mono HB1.out.size)); clear hb5 hS5))
      go_ret3
      exact DoR.mk E.out rfl (HA.out.1.below HB5.out) HB5.out
set_option maxRecDepth 100000 in
set_option maxHeartbeats 4000000 in
theorem do_give (n b base : Nat) (s : St) (text : ByteArray) (w : World) (hE : Env n w) (hnw : n ≤ w.heap.size) (ht : text.size ≤ 1048576) (h : StAt w base b s) (hG : Good s) (hbs : base ≤ w.heap.size) (hw : wordL text = kGiveW) :
    Calls Tryz.prog 30 #[.pointer (some ⟨b, 0, none⟩), .string text] w (DoR s text b base w) := by
  have hcut := cut_calls n text w hE ht
  rw [hw] at hcut
  have hF : doF s text = doG s kGiveW (readF ⟨#[110, 110, 100]⟩ text) (giveF s) := by
    unfold doF
    simp only [hw, kLeafW, kGiveW, kOrderW, kTasteW, kOfferW]
    simp
  unfold kGiveW at hcut
  have hcl := Aside0.mk (fun (W : World) (hW : Below w.heap.size w W) => clone_calls b base s W (h.below hW) hG.sized)
  have hrd := Aside0.mk (fun (W : World) (hW : Below w.heap.size w W) => read_calls n ⟨#[110, 110, 100]⟩ text W (hE.below hW hnw) (Nat.le_trans hnw hW.size) (by decide) ht)
  have HA := Aside0.mk (And.intro h (And.intro hG hbs))
  clear h hE hw hbs
  cases hr : readF ⟨#[110, 110, 100]⟩ text with
  | none =>
    have E := Aside0.mk (show doF s text = (s, ByteArray.empty, 3) by rw [hF, hr]; rfl)
    have HR := Aside0.mk hr
    clear hr hF
    go_enter Tryz.func30, Tryz.ntmps30
    go_wp2_with (first
      | (go_at_call 40; (with_reducible refine hcut.mono ?_); rintro e w1 ⟨⟨r, bb, rfl⟩, hb1⟩; have HB1 := Aside0.mk hb1; clear hb1)
      | (go_at_call 41; (with_reducible refine (hcl.out _ HB1.out).mono ?_); rintro e w2 ⟨b1, rfl, hS2, hb2⟩; have HB2 := Aside0.mk (HB1.out.trans (hb2.mono HB1.out.size)); clear hb2 hS2)
      | (go_at_call 47; (with_reducible refine (hrd.out _ HB2.out).mono ?_); rintro e w3 hr3; obtain ⟨rfl, hb3⟩ := ReadR.none_ HR.out hr3; have HB3 := Aside0.mk (HB2.out.trans (hb3.mono HB2.out.size)); clear hb3 hr3))
    go_ret3
    exact DoR.mk E.out rfl (HA.out.1.below (below_alloc HB3.out _)) (below_alloc HB3.out _)
  | some p =>
    obtain ⟨ns, ds⟩ := p
    have HR := Aside0.mk hr
    have hgo := Aside0.mk (fun (w1 W : World) (b1 : Nat) (vn vd : Value) (hS : StAt W w1.heap.size b1 s) (hL : LineAt W vn vd ns ds) (hz : w1.heap.size ≤ W.heap.size) => (show Calls Tryz.prog 43 #[.pointer (some ⟨b1, 0, none⟩), .agg #[vn, vd]] W (ActR ((giveF s : List ByteArray → List Int → St × Int) ns ds) b1 w1.heap.size W) from by
      obtain ⟨h1, h2, h3, h4, h5⟩ := readF_counts HR.out
      have c1 : ((⟨#[110, 110, 100]⟩ : ByteArray).data.toList.count 110 = 2) := by decide
      have c2 : ((⟨#[110, 110, 100]⟩ : ByteArray).size = 3) := by decide
      rw [c1] at h1 h2
      rw [c2] at h2
      exact give_calls b1 w1.heap.size s vn vd ns ds W hS hG.sized hG.nums hL (by omega) (by omega) (by have := num0_ok (by omega) h3; omega) hz))
    have HF := Aside0.mk (show doF s text = doG s kGiveW (some (ns, ds)) (giveF s) by rw [hF, hr])
    clear hr hF
    generalize hact : (giveF s : List ByteArray → List Int → St × Int) = act at hgo HF
    clear hact
    generalize hr2 : act ns ds = r2 at hgo
    obtain ⟨s2, c2⟩ := r2
    by_cases hc : c2 = 0
    · subst hc
      have E := Aside0.mk (show doF s text = (s2, ⟨#[103, 105, 118, 101]⟩, 0) by rw [HF.out, doG_good' _ _ _ (by rw [hr2]), hr2]; rfl)
      clear hr2
      go_enter Tryz.func30, Tryz.ntmps30
      go_wp2_with (first
        | (go_at_call 40; (with_reducible refine hcut.mono ?_); rintro e w1 ⟨⟨r, bb, rfl⟩, hb1⟩; have HB1 := Aside0.mk hb1; clear hb1)
        | (go_at_call 41; (with_reducible refine (hcl.out _ HB1.out).mono ?_); rintro e w2 ⟨b1, rfl, hS2, hb2⟩; have HS2 := Aside0.mk hS2; have HZ2 := Aside0.mk hb2.size; have HB2 := Aside0.mk (HB1.out.trans (hb2.mono HB1.out.size)); clear hb2 hS2)
        | (go_at_call 47; (with_reducible refine (hrd.out _ HB2.out).mono ?_); rintro e w3 hr3; obtain ⟨vn, vd, rfl, hL3, hb3⟩ := ReadR.some_ HR.out hr3; obtain ⟨An, kn, Ad, kd, rfl, rfl⟩ := hL3.forms; have HB3 := Aside0.mk (HB2.out.trans (hb3.mono HB2.out.size)); have HS3 := Aside0.mk ((HS2.out.below hb3).below (below_alloc (Below.refl w3.heap.size w3) (.cells #[.slice An ns.length kn, .slice Ad ds.length kd] 82))); have HL3 := Aside0.mk (hL3.below (below_alloc (Below.refl w3.heap.size w3) (.cells #[.slice An ns.length kn, .slice Ad ds.length kd] 82))); have HB4 := Aside0.mk (below_alloc HB3.out (.cells #[.slice An ns.length kn, .slice Ad ds.length kd] 82)); have HZ := Aside0.mk (show w1.heap.size ≤ (w3.alloc (.cells #[.slice An ns.length kn, .slice Ad ds.length kd] 82)).heap.size from Nat.le_trans (Nat.le_trans HZ2.out hb3.size) (below_alloc (Below.refl w3.heap.size w3) _).size); clear hb3 hr3 hL3)
        | (go_at_call 43; (with_reducible refine (hgo.out w1 _ b1 _ _ HS3.out HL3.out HZ.out).mono ?_); rintro e w5 ⟨rfl, hS5, hb5⟩; have HS5 := Aside0.mk hS5; have HB5 := Aside0.mk (HB4.out.trans (hb5.mono HB1.out.size)); clear hb5 hS5))
      go_ret3
      exact DoR.mk E.out rfl (HS5.out.lower (Nat.le_trans HA.out.2.2 HB1.out.size)) HB5.out
    · have E := Aside0.mk (show doF s text = (s, ByteArray.empty, c2) by rw [HF.out, doG_bad _ _ _ (by rw [hr2]; exact hc), hr2])
      have hcb : (c2 != 0) = true := by simp [hc]
      clear hr2 hc
      go_enter Tryz.func30, Tryz.ntmps30
      go_wp2_with (first
        | (go_at_call 40; (with_reducible refine hcut.mono ?_); rintro e w1 ⟨⟨r, bb, rfl⟩, hb1⟩; have HB1 := Aside0.mk hb1; clear hb1)
        | (go_at_call 41; (with_reducible refine (hcl.out _ HB1.out).mono ?_); rintro e w2 ⟨b1, rfl, hS2, hb2⟩; have HS2 := Aside0.mk hS2; have HZ2 := Aside0.mk hb2.size; have HB2 := Aside0.mk (HB1.out.trans (hb2.mono HB1.out.size)); clear hb2 hS2)
        | (go_at_call 47; (with_reducible refine (hrd.out _ HB2.out).mono ?_); rintro e w3 hr3; obtain ⟨vn, vd, rfl, hL3, hb3⟩ := ReadR.some_ HR.out hr3; obtain ⟨An, kn, Ad, kd, rfl, rfl⟩ := hL3.forms; have HB3 := Aside0.mk (HB2.out.trans (hb3.mono HB2.out.size)); have HS3 := Aside0.mk ((HS2.out.below hb3).below (below_alloc (Below.refl w3.heap.size w3) (.cells #[.slice An ns.length kn, .slice Ad ds.length kd] 82))); have HL3 := Aside0.mk (hL3.below (below_alloc (Below.refl w3.heap.size w3) (.cells #[.slice An ns.length kn, .slice Ad ds.length kd] 82))); have HB4 := Aside0.mk (below_alloc HB3.out (.cells #[.slice An ns.length kn, .slice Ad ds.length kd] 82)); have HZ := Aside0.mk (show w1.heap.size ≤ (w3.alloc (.cells #[.slice An ns.length kn, .slice Ad ds.length kd] 82)).heap.size from Nat.le_trans (Nat.le_trans HZ2.out hb3.size) (below_alloc (Below.refl w3.heap.size w3) _).size); clear hb3 hr3 hL3)
        | (go_at_call 43; (with_reducible refine (hgo.out w1 _ b1 _ _ HS3.out HL3.out HZ.out).mono ?_); rintro e w5 ⟨rfl, hS5, hb5⟩; have HS5 := Aside0.mk hS5; have HB5 := Aside0.mk (HB4.out.trans (hb5.mono HB1.out.size)); clear hb5 hS5))
      go_ret3
      exact DoR.mk E.out rfl (HA.out.1.below HB5.out) HB5.out
set_option maxRecDepth 100000 in
set_option maxHeartbeats 4000000 in
theorem do_order (n b base : Nat) (s : St) (text : ByteArray) (w : World) (hE : Env n w) (hnw : n ≤ w.heap.size) (ht : text.size ≤ 1048576) (h : StAt w base b s) (hG : Good s) (hbs : base ≤ w.heap.size) (hw : wordL text = kOrderW) :
    Calls Tryz.prog 30 #[.pointer (some ⟨b, 0, none⟩), .string text] w (DoR s text b base w) := by
  have hcut := cut_calls n text w hE ht
  rw [hw] at hcut
  have hF : doF s text = doG s kOrderW (readF ⟨#[110]⟩ text) (fun ns _ => orderF s ns) := by
    unfold doF
    simp only [hw, kLeafW, kGiveW, kOrderW, kTasteW, kOfferW]
    simp
  unfold kOrderW at hcut
  have hcl := Aside0.mk (fun (W : World) (hW : Below w.heap.size w W) => clone_calls b base s W (h.below hW) hG.sized)
  have hrd := Aside0.mk (fun (W : World) (hW : Below w.heap.size w W) => read_calls n ⟨#[110]⟩ text W (hE.below hW hnw) (Nat.le_trans hnw hW.size) (by decide) ht)
  have HA := Aside0.mk (And.intro h (And.intro hG hbs))
  clear h hE hw hbs
  cases hr : readF ⟨#[110]⟩ text with
  | none =>
    have E := Aside0.mk (show doF s text = (s, ByteArray.empty, 3) by rw [hF, hr]; rfl)
    have HR := Aside0.mk hr
    clear hr hF
    go_enter Tryz.func30, Tryz.ntmps30
    go_wp2_with (first
      | (go_at_call 40; (with_reducible refine hcut.mono ?_); rintro e w1 ⟨⟨r, bb, rfl⟩, hb1⟩; have HB1 := Aside0.mk hb1; clear hb1)
      | (go_at_call 41; (with_reducible refine (hcl.out _ HB1.out).mono ?_); rintro e w2 ⟨b1, rfl, hS2, hb2⟩; have HB2 := Aside0.mk (HB1.out.trans (hb2.mono HB1.out.size)); clear hb2 hS2)
      | (go_at_call 47; (with_reducible refine (hrd.out _ HB2.out).mono ?_); rintro e w3 hr3; obtain ⟨rfl, hb3⟩ := ReadR.none_ HR.out hr3; have HB3 := Aside0.mk (HB2.out.trans (hb3.mono HB2.out.size)); clear hb3 hr3))
    go_ret3
    exact DoR.mk E.out rfl (HA.out.1.below (below_alloc HB3.out _)) (below_alloc HB3.out _)
  | some p =>
    obtain ⟨ns, ds⟩ := p
    have HR := Aside0.mk hr
    have hgo := Aside0.mk (fun (w1 W : World) (b1 : Nat) (vn vd : Value) (hS : StAt W w1.heap.size b1 s) (hL : LineAt W vn vd ns ds) (hz : w1.heap.size ≤ W.heap.size) => (show Calls Tryz.prog 44 #[.pointer (some ⟨b1, 0, none⟩), .agg #[vn, vd]] W (ActR ((fun ns _ => orderF s ns : List ByteArray → List Int → St × Int) ns ds) b1 w1.heap.size W) from by
      obtain ⟨h1, h2, h3, h4, h5⟩ := readF_counts HR.out
      have c1 : ((⟨#[110]⟩ : ByteArray).data.toList.count 110 = 1) := by decide
      have c2 : ((⟨#[110]⟩ : ByteArray).size = 1) := by decide
      rw [c1] at h1 h2
      rw [c2] at h2
      exact order_calls b1 w1.heap.size s vn vd ns ds W hS hG.sized hG.nums hL (by omega) hz))
    have HF := Aside0.mk (show doF s text = doG s kOrderW (some (ns, ds)) (fun ns _ => orderF s ns) by rw [hF, hr])
    clear hr hF
    generalize hact : (fun ns _ => orderF s ns : List ByteArray → List Int → St × Int) = act at hgo HF
    clear hact
    generalize hr2 : act ns ds = r2 at hgo
    obtain ⟨s2, c2⟩ := r2
    by_cases hc : c2 = 0
    · subst hc
      have E := Aside0.mk (show doF s text = (s2, ⟨#[111, 114, 100, 101, 114]⟩, 0) by rw [HF.out, doG_good' _ _ _ (by rw [hr2]), hr2]; rfl)
      clear hr2
      go_enter Tryz.func30, Tryz.ntmps30
      go_wp2_with (first
        | (go_at_call 40; (with_reducible refine hcut.mono ?_); rintro e w1 ⟨⟨r, bb, rfl⟩, hb1⟩; have HB1 := Aside0.mk hb1; clear hb1)
        | (go_at_call 41; (with_reducible refine (hcl.out _ HB1.out).mono ?_); rintro e w2 ⟨b1, rfl, hS2, hb2⟩; have HS2 := Aside0.mk hS2; have HZ2 := Aside0.mk hb2.size; have HB2 := Aside0.mk (HB1.out.trans (hb2.mono HB1.out.size)); clear hb2 hS2)
        | (go_at_call 47; (with_reducible refine (hrd.out _ HB2.out).mono ?_); rintro e w3 hr3; obtain ⟨vn, vd, rfl, hL3, hb3⟩ := ReadR.some_ HR.out hr3; obtain ⟨An, kn, Ad, kd, rfl, rfl⟩ := hL3.forms; have HB3 := Aside0.mk (HB2.out.trans (hb3.mono HB2.out.size)); have HS3 := Aside0.mk ((HS2.out.below hb3).below (below_alloc (Below.refl w3.heap.size w3) (.cells #[.slice An ns.length kn, .slice Ad ds.length kd] 82))); have HL3 := Aside0.mk (hL3.below (below_alloc (Below.refl w3.heap.size w3) (.cells #[.slice An ns.length kn, .slice Ad ds.length kd] 82))); have HB4 := Aside0.mk (below_alloc HB3.out (.cells #[.slice An ns.length kn, .slice Ad ds.length kd] 82)); have HZ := Aside0.mk (show w1.heap.size ≤ (w3.alloc (.cells #[.slice An ns.length kn, .slice Ad ds.length kd] 82)).heap.size from Nat.le_trans (Nat.le_trans HZ2.out hb3.size) (below_alloc (Below.refl w3.heap.size w3) _).size); clear hb3 hr3 hL3)
        | (go_at_call 44; (with_reducible refine (hgo.out w1 _ b1 _ _ HS3.out HL3.out HZ.out).mono ?_); rintro e w5 ⟨rfl, hS5, hb5⟩; have HS5 := Aside0.mk hS5; have HB5 := Aside0.mk (HB4.out.trans (hb5.mono HB1.out.size)); clear hb5 hS5))
      go_ret3
      exact DoR.mk E.out rfl (HS5.out.lower (Nat.le_trans HA.out.2.2 HB1.out.size)) HB5.out
    · have E := Aside0.mk (show doF s text = (s, ByteArray.empty, c2) by rw [HF.out, doG_bad _ _ _ (by rw [hr2]; exact hc), hr2])
      have hcb : (c2 != 0) = true := by simp [hc]
      clear hr2 hc
      go_enter Tryz.func30, Tryz.ntmps30
      go_wp2_with (first
        | (go_at_call 40; (with_reducible refine hcut.mono ?_); rintro e w1 ⟨⟨r, bb, rfl⟩, hb1⟩; have HB1 := Aside0.mk hb1; clear hb1)
        | (go_at_call 41; (with_reducible refine (hcl.out _ HB1.out).mono ?_); rintro e w2 ⟨b1, rfl, hS2, hb2⟩; have HS2 := Aside0.mk hS2; have HZ2 := Aside0.mk hb2.size; have HB2 := Aside0.mk (HB1.out.trans (hb2.mono HB1.out.size)); clear hb2 hS2)
        | (go_at_call 47; (with_reducible refine (hrd.out _ HB2.out).mono ?_); rintro e w3 hr3; obtain ⟨vn, vd, rfl, hL3, hb3⟩ := ReadR.some_ HR.out hr3; obtain ⟨An, kn, Ad, kd, rfl, rfl⟩ := hL3.forms; have HB3 := Aside0.mk (HB2.out.trans (hb3.mono HB2.out.size)); have HS3 := Aside0.mk ((HS2.out.below hb3).below (below_alloc (Below.refl w3.heap.size w3) (.cells #[.slice An ns.length kn, .slice Ad ds.length kd] 82))); have HL3 := Aside0.mk (hL3.below (below_alloc (Below.refl w3.heap.size w3) (.cells #[.slice An ns.length kn, .slice Ad ds.length kd] 82))); have HB4 := Aside0.mk (below_alloc HB3.out (.cells #[.slice An ns.length kn, .slice Ad ds.length kd] 82)); have HZ := Aside0.mk (show w1.heap.size ≤ (w3.alloc (.cells #[.slice An ns.length kn, .slice Ad ds.length kd] 82)).heap.size from Nat.le_trans (Nat.le_trans HZ2.out hb3.size) (below_alloc (Below.refl w3.heap.size w3) _).size); clear hb3 hr3 hL3)
        | (go_at_call 44; (with_reducible refine (hgo.out w1 _ b1 _ _ HS3.out HL3.out HZ.out).mono ?_); rintro e w5 ⟨rfl, hS5, hb5⟩; have HS5 := Aside0.mk hS5; have HB5 := Aside0.mk (HB4.out.trans (hb5.mono HB1.out.size)); clear hb5 hS5))
      go_ret3
      exact DoR.mk E.out rfl (HA.out.1.below HB5.out) HB5.out
set_option maxRecDepth 100000 in
set_option maxHeartbeats 4000000 in
theorem do_taste (n b base : Nat) (s : St) (text : ByteArray) (w : World) (hE : Env n w) (hnw : n ≤ w.heap.size) (ht : text.size ≤ 1048576) (h : StAt w base b s) (hG : Good s) (hbs : base ≤ w.heap.size) (hw : wordL text = kTasteW) :
    Calls Tryz.prog 30 #[.pointer (some ⟨b, 0, none⟩), .string text] w (DoR s text b base w) := by
  have hcut := cut_calls n text w hE ht
  rw [hw] at hcut
  have hF : doF s text = doG s kTasteW (readF ⟨#[100, 100]⟩ text) (fun _ ds => tasteF s ds) := by
    unfold doF
    simp only [hw, kLeafW, kGiveW, kOrderW, kTasteW, kOfferW]
    simp
  unfold kTasteW at hcut
  have hcl := Aside0.mk (fun (W : World) (hW : Below w.heap.size w W) => clone_calls b base s W (h.below hW) hG.sized)
  have hrd := Aside0.mk (fun (W : World) (hW : Below w.heap.size w W) => read_calls n ⟨#[100, 100]⟩ text W (hE.below hW hnw) (Nat.le_trans hnw hW.size) (by decide) ht)
  have HA := Aside0.mk (And.intro h (And.intro hG hbs))
  clear h hE hw hbs
  cases hr : readF ⟨#[100, 100]⟩ text with
  | none =>
    have E := Aside0.mk (show doF s text = (s, ByteArray.empty, 3) by rw [hF, hr]; rfl)
    have HR := Aside0.mk hr
    clear hr hF
    go_enter Tryz.func30, Tryz.ntmps30
    go_wp2_with (first
      | (go_at_call 40; (with_reducible refine hcut.mono ?_); rintro e w1 ⟨⟨r, bb, rfl⟩, hb1⟩; have HB1 := Aside0.mk hb1; clear hb1)
      | (go_at_call 41; (with_reducible refine (hcl.out _ HB1.out).mono ?_); rintro e w2 ⟨b1, rfl, hS2, hb2⟩; have HB2 := Aside0.mk (HB1.out.trans (hb2.mono HB1.out.size)); clear hb2 hS2)
      | (go_at_call 47; (with_reducible refine (hrd.out _ HB2.out).mono ?_); rintro e w3 hr3; obtain ⟨rfl, hb3⟩ := ReadR.none_ HR.out hr3; have HB3 := Aside0.mk (HB2.out.trans (hb3.mono HB2.out.size)); clear hb3 hr3))
    go_ret3
    exact DoR.mk E.out rfl (HA.out.1.below (below_alloc HB3.out _)) (below_alloc HB3.out _)
  | some p =>
    obtain ⟨ns, ds⟩ := p
    have HR := Aside0.mk hr
    have hgo := Aside0.mk (fun (w1 W : World) (b1 : Nat) (vn vd : Value) (hS : StAt W w1.heap.size b1 s) (hL : LineAt W vn vd ns ds) (hz : w1.heap.size ≤ W.heap.size) => (show Calls Tryz.prog 45 #[.pointer (some ⟨b1, 0, none⟩), .agg #[vn, vd]] W (ActR ((fun _ ds => tasteF s ds : List ByteArray → List Int → St × Int) ns ds) b1 w1.heap.size W) from by
      obtain ⟨h1, h2, h3, h4, h5⟩ := readF_counts HR.out
      have c1 : ((⟨#[100, 100]⟩ : ByteArray).data.toList.count 110 = 0) := by decide
      have c2 : ((⟨#[100, 100]⟩ : ByteArray).size = 2) := by decide
      rw [c1] at h1 h2
      rw [c2] at h2
      exact taste_calls b1 w1.heap.size s vn vd ns ds W hS hG.tastes hL (by omega) (num0_ok (by omega) h3).1 (num1_ok (by omega) h3).1 hz))
    have HF := Aside0.mk (show doF s text = doG s kTasteW (some (ns, ds)) (fun _ ds => tasteF s ds) by rw [hF, hr])
    clear hr hF
    generalize hact : (fun _ ds => tasteF s ds : List ByteArray → List Int → St × Int) = act at hgo HF
    clear hact
    generalize hr2 : act ns ds = r2 at hgo
    obtain ⟨s2, c2⟩ := r2
    by_cases hc : c2 = 0
    · subst hc
      have E := Aside0.mk (show doF s text = (s2, ⟨#[116, 97, 115, 116, 101]⟩, 0) by rw [HF.out, doG_good' _ _ _ (by rw [hr2]), hr2]; rfl)
      clear hr2
      go_enter Tryz.func30, Tryz.ntmps30
      go_wp2_with (first
        | (go_at_call 40; (with_reducible refine hcut.mono ?_); rintro e w1 ⟨⟨r, bb, rfl⟩, hb1⟩; have HB1 := Aside0.mk hb1; clear hb1)
        | (go_at_call 41; (with_reducible refine (hcl.out _ HB1.out).mono ?_); rintro e w2 ⟨b1, rfl, hS2, hb2⟩; have HS2 := Aside0.mk hS2; have HZ2 := Aside0.mk hb2.size; have HB2 := Aside0.mk (HB1.out.trans (hb2.mono HB1.out.size)); clear hb2 hS2)
        | (go_at_call 47; (with_reducible refine (hrd.out _ HB2.out).mono ?_); rintro e w3 hr3; obtain ⟨vn, vd, rfl, hL3, hb3⟩ := ReadR.some_ HR.out hr3; obtain ⟨An, kn, Ad, kd, rfl, rfl⟩ := hL3.forms; have HB3 := Aside0.mk (HB2.out.trans (hb3.mono HB2.out.size)); have HS3 := Aside0.mk ((HS2.out.below hb3).below (below_alloc (Below.refl w3.heap.size w3) (.cells #[.slice An ns.length kn, .slice Ad ds.length kd] 82))); have HL3 := Aside0.mk (hL3.below (below_alloc (Below.refl w3.heap.size w3) (.cells #[.slice An ns.length kn, .slice Ad ds.length kd] 82))); have HB4 := Aside0.mk (below_alloc HB3.out (.cells #[.slice An ns.length kn, .slice Ad ds.length kd] 82)); have HZ := Aside0.mk (show w1.heap.size ≤ (w3.alloc (.cells #[.slice An ns.length kn, .slice Ad ds.length kd] 82)).heap.size from Nat.le_trans (Nat.le_trans HZ2.out hb3.size) (below_alloc (Below.refl w3.heap.size w3) _).size); clear hb3 hr3 hL3)
        | (go_at_call 45; (with_reducible refine (hgo.out w1 _ b1 _ _ HS3.out HL3.out HZ.out).mono ?_); rintro e w5 ⟨rfl, hS5, hb5⟩; have HS5 := Aside0.mk hS5; have HB5 := Aside0.mk (HB4.out.trans (hb5.mono HB1.out.size)); clear hb5 hS5))
      go_ret3
      exact DoR.mk E.out rfl (HS5.out.lower (Nat.le_trans HA.out.2.2 HB1.out.size)) HB5.out
    · have E := Aside0.mk (show doF s text = (s, ByteArray.empty, c2) by rw [HF.out, doG_bad _ _ _ (by rw [hr2]; exact hc), hr2])
      have hcb : (c2 != 0) = true := by simp [hc]
      clear hr2 hc
      go_enter Tryz.func30, Tryz.ntmps30
      go_wp2_with (first
        | (go_at_call 40; (with_reducible refine hcut.mono ?_); rintro e w1 ⟨⟨r, bb, rfl⟩, hb1⟩; have HB1 := Aside0.mk hb1; clear hb1)
        | (go_at_call 41; (with_reducible refine (hcl.out _ HB1.out).mono ?_); rintro e w2 ⟨b1, rfl, hS2, hb2⟩; have HS2 := Aside0.mk hS2; have HZ2 := Aside0.mk hb2.size; have HB2 := Aside0.mk (HB1.out.trans (hb2.mono HB1.out.size)); clear hb2 hS2)
        | (go_at_call 47; (with_reducible refine (hrd.out _ HB2.out).mono ?_); rintro e w3 hr3; obtain ⟨vn, vd, rfl, hL3, hb3⟩ := ReadR.some_ HR.out hr3; obtain ⟨An, kn, Ad, kd, rfl, rfl⟩ := hL3.forms; have HB3 := Aside0.mk (HB2.out.trans (hb3.mono HB2.out.size)); have HS3 := Aside0.mk ((HS2.out.below hb3).below (below_alloc (Below.refl w3.heap.size w3) (.cells #[.slice An ns.length kn, .slice Ad ds.length kd] 82))); have HL3 := Aside0.mk (hL3.below (below_alloc (Below.refl w3.heap.size w3) (.cells #[.slice An ns.length kn, .slice Ad ds.length kd] 82))); have HB4 := Aside0.mk (below_alloc HB3.out (.cells #[.slice An ns.length kn, .slice Ad ds.length kd] 82)); have HZ := Aside0.mk (show w1.heap.size ≤ (w3.alloc (.cells #[.slice An ns.length kn, .slice Ad ds.length kd] 82)).heap.size from Nat.le_trans (Nat.le_trans HZ2.out hb3.size) (below_alloc (Below.refl w3.heap.size w3) _).size); clear hb3 hr3 hL3)
        | (go_at_call 45; (with_reducible refine (hgo.out w1 _ b1 _ _ HS3.out HL3.out HZ.out).mono ?_); rintro e w5 ⟨rfl, hS5, hb5⟩; have HS5 := Aside0.mk hS5; have HB5 := Aside0.mk (HB4.out.trans (hb5.mono HB1.out.size)); clear hb5 hS5))
      go_ret3
      exact DoR.mk E.out rfl (HA.out.1.below HB5.out) HB5.out
set_option maxRecDepth 100000 in
set_option maxHeartbeats 4000000 in
theorem do_offer (n b base : Nat) (s : St) (text : ByteArray) (w : World) (hE : Env n w) (hnw : n ≤ w.heap.size) (ht : text.size ≤ 1048576) (h : StAt w base b s) (hG : Good s) (hbs : base ≤ w.heap.size) (hw : wordL text = kOfferW) :
    Calls Tryz.prog 30 #[.pointer (some ⟨b, 0, none⟩), .string text] w (DoR s text b base w) := by
  have hcut := cut_calls n text w hE ht
  rw [hw] at hcut
  have hF : doF s text = doG s kOfferW (readF ⟨#[100, 100]⟩ text) (fun _ ds => offerF s ds) := by
    unfold doF
    simp only [hw, kLeafW, kGiveW, kOrderW, kTasteW, kOfferW]
    simp
  unfold kOfferW at hcut
  have hcl := Aside0.mk (fun (W : World) (hW : Below w.heap.size w W) => clone_calls b base s W (h.below hW) hG.sized)
  have hrd := Aside0.mk (fun (W : World) (hW : Below w.heap.size w W) => read_calls n ⟨#[100, 100]⟩ text W (hE.below hW hnw) (Nat.le_trans hnw hW.size) (by decide) ht)
  have HA := Aside0.mk (And.intro h (And.intro hG hbs))
  clear h hE hw hbs
  cases hr : readF ⟨#[100, 100]⟩ text with
  | none =>
    have E := Aside0.mk (show doF s text = (s, ByteArray.empty, 3) by rw [hF, hr]; rfl)
    have HR := Aside0.mk hr
    clear hr hF
    go_enter Tryz.func30, Tryz.ntmps30
    go_wp2_with (first
      | (go_at_call 40; (with_reducible refine hcut.mono ?_); rintro e w1 ⟨⟨r, bb, rfl⟩, hb1⟩; have HB1 := Aside0.mk hb1; clear hb1)
      | (go_at_call 41; (with_reducible refine (hcl.out _ HB1.out).mono ?_); rintro e w2 ⟨b1, rfl, hS2, hb2⟩; have HB2 := Aside0.mk (HB1.out.trans (hb2.mono HB1.out.size)); clear hb2 hS2)
      | (go_at_call 47; (with_reducible refine (hrd.out _ HB2.out).mono ?_); rintro e w3 hr3; obtain ⟨rfl, hb3⟩ := ReadR.none_ HR.out hr3; have HB3 := Aside0.mk (HB2.out.trans (hb3.mono HB2.out.size)); clear hb3 hr3))
    go_ret3
    exact DoR.mk E.out rfl (HA.out.1.below (below_alloc HB3.out _)) (below_alloc HB3.out _)
  | some p =>
    obtain ⟨ns, ds⟩ := p
    have HR := Aside0.mk hr
    have hgo := Aside0.mk (fun (w1 W : World) (b1 : Nat) (vn vd : Value) (hS : StAt W w1.heap.size b1 s) (hL : LineAt W vn vd ns ds) (hz : w1.heap.size ≤ W.heap.size) => (show Calls Tryz.prog 46 #[.pointer (some ⟨b1, 0, none⟩), .agg #[vn, vd]] W (ActR ((fun _ ds => offerF s ds : List ByteArray → List Int → St × Int) ns ds) b1 w1.heap.size W) from by
      obtain ⟨h1, h2, h3, h4, h5⟩ := readF_counts HR.out
      have c1 : ((⟨#[100, 100]⟩ : ByteArray).data.toList.count 110 = 0) := by decide
      have c2 : ((⟨#[100, 100]⟩ : ByteArray).size = 2) := by decide
      rw [c1] at h1 h2
      rw [c2] at h2
      exact offer_calls b1 w1.heap.size s vn vd ns ds W hS hG.sized hL (by omega) hz))
    have HF := Aside0.mk (show doF s text = doG s kOfferW (some (ns, ds)) (fun _ ds => offerF s ds) by rw [hF, hr])
    clear hr hF
    generalize hact : (fun _ ds => offerF s ds : List ByteArray → List Int → St × Int) = act at hgo HF
    clear hact
    generalize hr2 : act ns ds = r2 at hgo
    obtain ⟨s2, c2⟩ := r2
    by_cases hc : c2 = 0
    · subst hc
      have E := Aside0.mk (show doF s text = (s2, ⟨#[111, 102, 102, 101, 114]⟩, 0) by rw [HF.out, doG_good' _ _ _ (by rw [hr2]), hr2]; rfl)
      clear hr2
      go_enter Tryz.func30, Tryz.ntmps30
      go_wp2_with (first
        | (go_at_call 40; (with_reducible refine hcut.mono ?_); rintro e w1 ⟨⟨r, bb, rfl⟩, hb1⟩; have HB1 := Aside0.mk hb1; clear hb1)
        | (go_at_call 41; (with_reducible refine (hcl.out _ HB1.out).mono ?_); rintro e w2 ⟨b1, rfl, hS2, hb2⟩; have HS2 := Aside0.mk hS2; have HZ2 := Aside0.mk hb2.size; have HB2 := Aside0.mk (HB1.out.trans (hb2.mono HB1.out.size)); clear hb2 hS2)
        | (go_at_call 47; (with_reducible refine (hrd.out _ HB2.out).mono ?_); rintro e w3 hr3; obtain ⟨vn, vd, rfl, hL3, hb3⟩ := ReadR.some_ HR.out hr3; obtain ⟨An, kn, Ad, kd, rfl, rfl⟩ := hL3.forms; have HB3 := Aside0.mk (HB2.out.trans (hb3.mono HB2.out.size)); have HS3 := Aside0.mk ((HS2.out.below hb3).below (below_alloc (Below.refl w3.heap.size w3) (.cells #[.slice An ns.length kn, .slice Ad ds.length kd] 82))); have HL3 := Aside0.mk (hL3.below (below_alloc (Below.refl w3.heap.size w3) (.cells #[.slice An ns.length kn, .slice Ad ds.length kd] 82))); have HB4 := Aside0.mk (below_alloc HB3.out (.cells #[.slice An ns.length kn, .slice Ad ds.length kd] 82)); have HZ := Aside0.mk (show w1.heap.size ≤ (w3.alloc (.cells #[.slice An ns.length kn, .slice Ad ds.length kd] 82)).heap.size from Nat.le_trans (Nat.le_trans HZ2.out hb3.size) (below_alloc (Below.refl w3.heap.size w3) _).size); clear hb3 hr3 hL3)
        | (go_at_call 46; (with_reducible refine (hgo.out w1 _ b1 _ _ HS3.out HL3.out HZ.out).mono ?_); rintro e w5 ⟨rfl, hS5, hb5⟩; have HS5 := Aside0.mk hS5; have HB5 := Aside0.mk (HB4.out.trans (hb5.mono HB1.out.size)); clear hb5 hS5))
      go_ret3
      exact DoR.mk E.out rfl (HS5.out.lower (Nat.le_trans HA.out.2.2 HB1.out.size)) HB5.out
    · have E := Aside0.mk (show doF s text = (s, ByteArray.empty, c2) by rw [HF.out, doG_bad _ _ _ (by rw [hr2]; exact hc), hr2])
      have hcb : (c2 != 0) = true := by simp [hc]
      clear hr2 hc
      go_enter Tryz.func30, Tryz.ntmps30
      go_wp2_with (first
        | (go_at_call 40; (with_reducible refine hcut.mono ?_); rintro e w1 ⟨⟨r, bb, rfl⟩, hb1⟩; have HB1 := Aside0.mk hb1; clear hb1)
        | (go_at_call 41; (with_reducible refine (hcl.out _ HB1.out).mono ?_); rintro e w2 ⟨b1, rfl, hS2, hb2⟩; have HS2 := Aside0.mk hS2; have HZ2 := Aside0.mk hb2.size; have HB2 := Aside0.mk (HB1.out.trans (hb2.mono HB1.out.size)); clear hb2 hS2)
        | (go_at_call 47; (with_reducible refine (hrd.out _ HB2.out).mono ?_); rintro e w3 hr3; obtain ⟨vn, vd, rfl, hL3, hb3⟩ := ReadR.some_ HR.out hr3; obtain ⟨An, kn, Ad, kd, rfl, rfl⟩ := hL3.forms; have HB3 := Aside0.mk (HB2.out.trans (hb3.mono HB2.out.size)); have HS3 := Aside0.mk ((HS2.out.below hb3).below (below_alloc (Below.refl w3.heap.size w3) (.cells #[.slice An ns.length kn, .slice Ad ds.length kd] 82))); have HL3 := Aside0.mk (hL3.below (below_alloc (Below.refl w3.heap.size w3) (.cells #[.slice An ns.length kn, .slice Ad ds.length kd] 82))); have HB4 := Aside0.mk (below_alloc HB3.out (.cells #[.slice An ns.length kn, .slice Ad ds.length kd] 82)); have HZ := Aside0.mk (show w1.heap.size ≤ (w3.alloc (.cells #[.slice An ns.length kn, .slice Ad ds.length kd] 82)).heap.size from Nat.le_trans (Nat.le_trans HZ2.out hb3.size) (below_alloc (Below.refl w3.heap.size w3) _).size); clear hb3 hr3 hL3)
        | (go_at_call 46; (with_reducible refine (hgo.out w1 _ b1 _ _ HS3.out HL3.out HZ.out).mono ?_); rintro e w5 ⟨rfl, hS5, hb5⟩; have HS5 := Aside0.mk hS5; have HB5 := Aside0.mk (HB4.out.trans (hb5.mono HB1.out.size)); clear hb5 hS5))
      go_ret3
      exact DoR.mk E.out rfl (HA.out.1.below HB5.out) HB5.out
set_option maxHeartbeats 4000000 in
set_option maxRecDepth 100000 in
theorem do_calls (n b base : Nat) (s : St) (text : ByteArray) (w : World) (hE : Env n w) (hnw : n ≤ w.heap.size) (ht : text.size ≤ 1048576) (h : StAt w base b s) (hG : Good s) (hbs : base ≤ w.heap.size) :
    Calls Tryz.prog 30 #[.pointer (some ⟨b, 0, none⟩), .string text] w (DoR s text b base w) := by
  by_cases h1 : wordL text = kLeafW
  · exact do_leaf n b base s text w hE hnw ht h hG hbs h1
  by_cases h2 : wordL text = kGiveW
  · exact do_give n b base s text w hE hnw ht h hG hbs h2
  by_cases h3 : wordL text = kOrderW
  · exact do_order n b base s text w hE hnw ht h hG hbs h3
  by_cases h4 : wordL text = kTasteW
  · exact do_taste n b base s text w hE hnw ht h hG hbs h4
  by_cases h5 : wordL text = kOfferW
  · exact do_offer n b base s text w hE hnw ht h hG hbs h5
  have E := Aside0.mk (show doF s text = (s, ByteArray.empty, 3) by unfold doF; rw [if_neg h1, if_neg h2, if_neg h3, if_neg h4, if_neg h5])
  have hcut := cut_calls n text w hE ht
  have hcl := Aside0.mk (fun (W : World) (hW : Below w.heap.size w W) => clone_calls b base s W (h.below hW) hG.sized)
  have HA := Aside0.mk (And.intro h (And.intro hG hbs))
  unfold kLeafW at h1
  unfold kGiveW at h2
  unfold kOrderW at h3
  unfold kTasteW at h4
  unfold kOfferW at h5
  generalize wordL text = wl at hcut h1 h2 h3 h4 h5
  have b1 : (wl == [108, 101, 97, 102]) = false := by simpa using h1
  have b2 : (wl == [103, 105, 118, 101]) = false := by simpa using h2
  have b3 : (wl == [111, 114, 100, 101, 114]) = false := by simpa using h3
  have b4 : (wl == [116, 97, 115, 116, 101]) = false := by simpa using h4
  have b5 : (wl == [111, 102, 102, 101, 114]) = false := by simpa using h5
  clear h hE hbs h1 h2 h3 h4 h5
  go_enter Tryz.func30, Tryz.ntmps30
  go_wp2_with (first
    | (go_at_call 40; (with_reducible refine hcut.mono ?_); rintro e w1 ⟨⟨r, bb, rfl⟩, hb1⟩; have HB1 := Aside0.mk hb1; clear hb1)
    | (go_at_call 41; (with_reducible refine (hcl.out _ HB1.out).mono ?_); rintro e w2 ⟨b1, rfl, hS2, hb2⟩; have HB2 := Aside0.mk (HB1.out.trans (hb2.mono HB1.out.size)); clear hb2 hS2))
  go_ret3
  exact DoR.mk E.out rfl (HA.out.1.below HB2.out) HB2.out
end Go.Proofs.YtccnfbjdpgmlhaaGreatDoor
