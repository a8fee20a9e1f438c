/- Walks of the chest's laws: ways. -/
import Derived.Test.YtccnfbjdpgmlhaaGreatDoorChBB
namespace Go.Proofs.YtccnfbjdpgmlhaaGreatDoor
open Go.RowKit Go.Proofs.YtccnfbjdpgmlhaaGreatDoorW.PrintWords Go.Proofs.YtccnfbjdpgmlhaaGreatDoorW.PrintLast Go.Proofs.YtccnfbjdpgmlhaaGreatDoorW.PrintMore
set_option linter.unusedVariables false
set_option linter.unusedSimpArgs false

/-- a chest of w, in a later world where of all that w holds only the chest's place has turned. -/
structure Same (w : World) (base c : Nat) (v : Value) (a : Nat) (W : World) : Prop where
  low : Below base w W
  keep : KeepBut w W c none
  cell : W.heap[c]? = some (.cells #[v, .int .i64 a] 25 (0, 0))
theorem Same.start {w : World} {base c : Nat} {v : Value} {P : List Page} {a : Nat} (h : ChestAt w base c v P a) : Same w base c v a w := ⟨Below.refl _ _, KeepBut.refl _ _ _, h.1⟩
theorem Same.chest {w W : World} {base c : Nat} {v : Value} {P : List Page} {a b : Nat} (h : ChestAt w base c v P a) (hs : Same w base c v b W) : ChestAt W base c v P b := by
  have hz : (w.setCell ⟨c, 1, none⟩ (.int .i64 b)).heap.size = w.heap.size := by simp [World.setCell]
  refine (h.setAt b).below ⟨hs.low.os, hs.low.tape, hs.low.output, by rw [hz]; exact hs.low.size, fun k hk => ?_⟩
  rw [hz] at hk
  by_cases hkc : k = c
  · subst hkc
    rw [hs.cell]
    exact (blk_set h.1 1 _).symm
  · rw [hs.keep.2 k hk hkc (by simp)]
    exact (Below.heap_setCell w ⟨c, 1, none⟩ _ k hkc).symm
theorem Same.trans {w W W' : World} {base c : Nat} {v : Value} {a b : Nat} (h : Same w base c v a W) (k : Same W base c v b W') : Same w base c v b W' :=
  ⟨h.low.trans k.low, h.keep.trans k.keep (.inl rfl), k.cell⟩
theorem Same.above {w W W' : World} {base c : Nat} {v : Value} {a : Nat} (h : Same w base c v a W) (hb : Below w.heap.size W W') (hc : c < w.heap.size) (hbs : base ≤ w.heap.size) : Same w base c v a W' :=
  ⟨h.low.trans (hb.mono hbs), ⟨Nat.le_trans h.keep.1 hb.size, fun k hk hkc ho => (hb.block k hk).trans (h.keep.2 k hk hkc ho)⟩, by rw [hb.block c hc]; exact h.cell⟩
theorem Same.left {w W : World} {base c : Nat} {v : Value} {a : Nat} (h : Same w base c v a W) : Left w base c v W := ⟨h.low, h.keep.1, fun k hk hkc _ => h.keep.2 k hk hkc (by simp)⟩
/-- a row of the call's own stays while the chest's place turns. -/
theorem row_kept0 {α : Type} {K : Kd α} {T : TypeId} {w1 W : World} {m c : Nat} {x : Value} {xs : List α} (hR : Kd.R K T w1 m Tt x xs) (hk : KeepBut w1 W c none) (hc : c < m) : Kd.R K T W m Tt x xs := by
  refine Kd.R_mono (Kd.R_move (Kd.R_bound hR) (fun k hk2 => ?_)) (fun _ _ => trivial)
  obtain ⟨_, h1, h2, _⟩ := hk2
  exact hk.2 k h2 (by omega) (by simp)
def Back3R (c : Nat) (v : Value) (P : List Page) (a base : Nat) (x : Int) (w : World) (e : Ending) (w' : World) : Prop :=
  e = .returned (.int .i64 (BackE P a x)) ∧ Same w base c v (BackA P a x) w'
set_option maxHeartbeats 4000000 in
theorem Go_calls3 (c : Nat) (v : Value) (P : List Page) (a base m : Nat) (w : World) (h : ChestAt w base c v P a) (hm : m < P.length) (hbs : base ≤ w.heap.size) :
    Calls Tryz.prog 13 #[.pointer (some ⟨c, 0, none⟩), .int .i64 m] w fun e w' => e = .returned (.int .i64 0) ∧ Same w base c v m w' := by
  have hn := none_calls c v P a base w h (by omega)
  have hb1 : Below w.heap.size w (w.alloc (.cells #[.int .i64 m] 3)) := (Below.refl _ _).alloc (Nat.le_refl _) _
  have hh := has_one c v P a base m w.heap.size (w.alloc (.cells #[.int .i64 m] 3)) (h.below hb1) (by simp)
  rw [show inP P.length (m : Int) = true by unfold inP; rw [decide_eq_true]; omega] at hh
  have H := Aside0.mk h
  have HB := Aside0.mk hb1
  obtain ⟨A, cap, rfl, hl, hC, h0, h1, f0, f1⟩ := h.cells
  have hcl : c < w.heap.size := World.block_lt_of_cell? w _ h0
  clear h hC hb1
  go_enter Tryz.func13, Tryz.ntmps13
  go_wp2_with (first | (go_at_call 28; (with_reducible refine hn.mono ?_); rintro e w' ⟨rfl, rfl⟩) | (go_at_call 33; (with_reducible refine hh.mono ?_); rintro e w1 ⟨rfl, hb'⟩; have hb2 := Aside0.mk (HB.out.trans (hb'.mono (by simp))); have g1 := (hb2.out.cell (p := ⟨c, 1, none⟩) hcl).trans h1; have q1 := (hb2.out.frozen (p := ⟨c, 1, none⟩) hcl).trans f1; have hcl1 : c < w1.heap.size := Nat.lt_of_lt_of_le hcl hb2.out.size))
  go_ret
  have h2 := (H.out.below hb2.out).setAt m
  exact ⟨rfl, (hb2.out.mono hbs).setCell (p := ⟨c, 1, none⟩) H.out.2.1 _, (KeepBut.of_below hb2.out _ _).set_ 1 _, h2.1⟩
set_option maxHeartbeats 4000000 in
theorem Back_calls3 (c : Nat) (v : Value) (P : List Page) (a base : Nat) (x : Int) (w : World) (h : ChestAt w base c v P a) (hO : Ok P a) (hbs : base ≤ w.heap.size) (hx : x ≤ 9223372036854775807) :
    Calls Tryz.prog 14 #[.pointer (some ⟨c, 0, none⟩), .int .i64 x] w (Back3R c v P a base x w) := by
  have hat := hO.at_
  have hn := none_calls c v P a base w h (by omega)
  have hw := way_calls c v P a base a w h hO.tree hO.at_ hO.most
  have H := Aside0.mk h
  have HO := Aside0.mk hO
  obtain ⟨A, cap, hv, hl, hC, h0, h1, f0, f1⟩ := h.cells
  have hcl : c < w.heap.size := World.block_lt_of_cell? w _ h0
  have HW := Aside0.mk hw
  have HV := Aside0.mk hv
  clear h hC hO hw hv
  by_cases c1 : x < 0
  · have E : Aside0 (BackE P a x = 2 ∧ BackA P a x = a) := ⟨by unfold BackE BackA; rw [if_pos c1, if_pos c1]; exact ⟨rfl, rfl⟩⟩
    go_enter Tryz.func14, Tryz.ntmps14
    go_wp2_with (go_at_call 28; (with_reducible refine hn.mono ?_); rintro e w' ⟨rfl, rfl⟩)
    go_ret
    exact ⟨by rw [E.out.1]; rfl, by rw [E.out.2]; exact Same.start H.out⟩
  · by_cases c2 : ((up P a).length : Int) < x
    · have E : Aside0 (BackE P a x = 4 ∧ BackA P a x = a) := ⟨by unfold BackE BackA; rw [if_neg c1, if_neg c1, if_pos c2, if_pos c2]; exact ⟨rfl, rfl⟩⟩
      go_enter Tryz.func14, Tryz.ntmps14
      go_wp2_with (first | (go_at_call 28; (with_reducible refine hn.mono ?_); rintro e w' ⟨rfl, rfl⟩) | (go_at_call 35; (with_reducible refine HW.out.mono ?_); rintro e w1 ⟨v1, rfl, hR1, hb1⟩; have HR1 := Aside0.mk hR1; have HB1 := Aside0.mk hb1; clear hR1 hb1; obtain ⟨A1, c1', rfl, hl1, hC1⟩ := Kd.R_reads HR1.out; rw [wayP_length]; clear hC1 hl1))
      go_ret
      exact ⟨by rw [E.out.1]; rfl, by rw [E.out.2]; exact (Same.start H.out).above HB1.out hcl hbs⟩
    · obtain ⟨n, rfl⟩ : ∃ n : Nat, x = n := ⟨x.toNat, by omega⟩
      have hn2 : n ≤ (up P a).length := by omega
      have E : Aside0 (BackE P a n = 0 ∧ BackA P a n = backP P n a) := ⟨by unfold BackE BackA; rw [if_neg c1, if_neg c1, if_neg c2, if_neg c2]; exact ⟨rfl, rfl⟩⟩
      go_enter Tryz.func14, Tryz.ntmps14
      go_wp2_with (first | (go_at_call 28; (with_reducible refine hn.mono ?_); rintro e w' ⟨rfl, rfl⟩) | (go_at_call 35; (with_reducible refine HW.out.mono ?_); rintro e w1 ⟨v1, rfl, hR1, hb1⟩; have HR1 := Aside0.mk hR1; have HB1 := Aside0.mk hb1; clear hR1 hb1; obtain ⟨A1, c1', rfl, hl1, hC1⟩ := Kd.R_reads HR1.out; rw [wayP_length]; clear hC1 hl1))
      have hcw : c < w1.heap.size := Nat.lt_of_lt_of_le hcl HB1.out.size
      go_loopg [22] n (fun gg s22 W => ∃ k : Nat, k ≤ n ∧ Aside0 (n - k ≤ gg) ∧ s22 = .int .i64 k ∧ Aside0 (ChestAt W base c v P (backP P k a)) ∧ Aside0 (Below base w W ∧ KeepBut w W c none))
      case atStart => exact ⟨0, Nat.zero_le _, ⟨by omega⟩, rfl, ⟨H.out.below HB1.out⟩, ⟨HB1.out.mono hbs, KeepBut.of_below HB1.out _ _⟩⟩
      case round =>
        obtain ⟨k, hk, hgk, rfl, HC, HL⟩ := hrel
        by_cases hlt : k < n
        · have hltz : (k : Int) < (n : Int) := by omega
          obtain ⟨A2, cap2, hv2, hl2, hC2, g0, g1, q0, q1⟩ := HC.out.cells
          have hb := (backP_up P HO.out.tree k a HO.out.at_ (by omega)).1
          have hs := backP_succ P k a
          obtain ⟨ad, rfl, hx0, hx1, hx2⟩ := at_pg hC2 (backP P k a : Int) (by omega) (by omega)
          have e : ((P.map Page.pg).getD (backP P k a) default).parent = (par P (backP P k a) : Int) := by
            rw [List.getD_eq_getElem?_getD, List.getElem?_map, List.getElem?_eq_getElem hb]; unfold par; rw [List.getD_eq_getElem?_getD, List.getElem?_eq_getElem hb]; rfl
          rw [Int.toNat_natCast, e] at hx1
          have HS := Aside0.mk hs
          have HV2 := Aside0.mk hv2
          clear hx0 hx2 e hs hv2 hC2
          generalize par P (backP P k a) = q at hx1 HS
          generalize backP P k a = b at *
          have hb0 : (0 : Int) ≤ (b : Int) := by omega
          have hb1 : (b : Int) < (P.length : Int) := by omega
          go_wp2_with (fail)
          go_region
          go_wp2
          go_roundg (n - (k + 1))
          case measure => have := hgk.out; omega
          case rel => exact ⟨k + 1, by omega, ⟨by omega⟩, by go_num, ⟨by rw [HS.out]; exact (HC.out.setAt q).below (below_drew (Below.refl _ _))⟩, ⟨below_drew (HL.out.1.setCell (p := ⟨c, 1, none⟩) HC.out.2.1 _), HL.out.2.set_ 1 _⟩⟩
        · have hltz : ¬ (k : Int) < (n : Int) := by omega
          go_wp2
          go_ret
          obtain rfl : k = n := by omega
          exact ⟨by rw [E.out.1]; rfl, by rw [E.out.2]; exact ⟨HL.out.1, HL.out.2, HC.out.1⟩⟩
theorem up_back {P : List Page} {a : Nat} (hI : Inv P a) : ∀ j, j ≤ (up P a).length → (up P a ++ [0]).getD j 0 = backP P j a := by
  suffices h : ∀ j a, a < P.length → j ≤ (up P a).length → (up P a ++ [0]).getD j 0 = backP P j a from fun j hj => h j a hI.at_ hj
  intro j
  induction j with
  | zero =>
    intro a ha _
    rcases Nat.eq_zero_or_pos a with h | h
    · subst h; rw [up_zero]; rfl
    · rw [up_step P hI.book.tree a h ha]; rfl
  | succ j ih =>
    intro a ha hj
    rcases Nat.eq_zero_or_pos a with h | h
    · subst h; rw [up_zero] at hj; simp at hj
    · rw [up_step P hI.book.tree a h ha] at hj ⊢
      have := ih (par P a) (hI.book.par_lt ha) (by simpa [par] using hj)
      exact this
theorem back_at {P : List Page} {a j : Nat} (hI : Inv P a) (hj : j ≤ (up P a).length) : (up P (backP P j a)).length = (up P a).length - j := by
  suffices h : ∀ j a, a < P.length → j ≤ (up P a).length → (up P (backP P j a)).length = (up P a).length - j from h j a hI.at_ hj
  intro j
  induction j with
  | zero => intro a ha _; rfl
  | succ j ih =>
    intro a ha hj
    rcases Nat.eq_zero_or_pos a with h | h
    · subst h; rw [up_zero] at hj; simp at hj
    · rw [up_step P hI.book.tree a h ha] at hj ⊢
      have := ih (par P a) (hI.book.par_lt ha) (by simpa [par] using hj)
      show (up P (backP P j (par P a))).length = _
      rw [this]
      simp [par]
def waysF (P : List Page) (a : Nat) : List Nat := 0 :: wayP P a
def WaysR (c : Nat) (v : Value) (P : List Page) (a base : Nat) (w : World) (e : Ending) (w' : World) : Prop :=
  ∃ r, e = .returned r ∧ Kd.R (Kd.int .i64) 3 w' w.heap.size Tt r (toI (waysF P a)) ∧ Same w base c v a w'
theorem int_lit (W : World) (base : Nat) (x : Int) (hb : base ≤ W.heap.size) :
    Kd.R (Kd.int .i64) 3 (W.alloc (.cells #[.int .i64 x] 3)) base Tt (.slice (some ⟨W.heap.size, 0, none⟩) 1 1) [x] := by
  refine ⟨fun _ _ => trivial, ?_⟩
  refine OwnRow.lit W base (inner := [.int .i64 x]) (ps := [x]) ⟨rfl, fun j q hj => ?_⟩ hb (by simp)
  obtain rfl : j = 0 := by
    have := (List.getElem?_eq_some_iff.1 hj).1
    simp at this; omega
  obtain rfl : x = q := by simpa using hj
  exact rfl
set_option maxRecDepth 100000 in
set_option maxHeartbeats 8000000 in
theorem ways_calls (c : Nat) (v : Value) (P : List Page) (a base : Nat) (w : World) (h : ChestAt w base c v P a) (hI : Inv P a) (hbs : base ≤ w.heap.size) :
    Calls Tryz.prog 22 #[.pointer (some ⟨c, 0, none⟩)] w (WaysR c v P a base w) := by
  have hat0 := At_calls c v P a base w h hI.book.some_
  have H := Aside0.mk h
  have HI := Aside0.mk hI
  have hcl := h.own_lt.1
  have hup := up_length P hI.book.tree a hI.at_
  have hmost := hI.book.most
  have hat := hI.at_
  have hL : (up P a).length < 200 := by omega
  have B1 := below_alloc (Below.refl w.heap.size w) (.cells #[.int .i64 a] 3)
  have HL1 := Aside0.mk (int_lit w w.heap.size (a : Int) (Nat.le_refl _))
  have HB1 := Aside0.mk B1
  clear h hI B1 hup
  go_enter Tryz.func22, Tryz.ntmps22
  go_wp2_with (go_at_call 15; (with_reducible refine hat0.mono ?_); rintro e w' ⟨rfl, rfl⟩)
  go_loopg [4, 9] 200 (fun gg s4 s9 W => ∃ j : Nat, s9 = .int .i64 j ∧ j ≤ (up P a).length ∧ Aside0 (200 - j ≤ gg) ∧ Aside0 (Kd.R (Kd.int .i64) 3 W w.heap.size Tt s4 (toI ((up P a ++ [0]).take (j + 1)))) ∧ Aside0 (Same w base c v (backP P j a) W))
  case atStart =>
    refine ⟨0, rfl, Nat.zero_le _, ⟨by omega⟩, ⟨?_⟩, ⟨(Same.start H.out).above HB1.out hcl hbs⟩⟩
    have e : toI ((up P a ++ [0]).take (0 + 1)) = [(a : Int)] := by
      have := up_back HI.out 0 (Nat.zero_le _)
      rw [take_snoc _ 0 0 (by simp), this]; rfl
    rw [e]
    exact HL1.out
  case round =>
    obtain ⟨j, rfl, hj, hgj, HR, HS⟩ := hrel
    have hj2 : (j : Int) < 200 := by omega
    have hj0 : (0 : Int) ≤ (j : Int) := by omega
    have HIj := Aside0.mk (HI.out.go (backP_in HI.out j a hat))
    have HCj := Aside0.mk (HS.out.chest H.out)
    have hbk := Back_calls3 c v P (backP P j a) base 1 wr HCj.out HIj.out.ok (Nat.le_trans hbs HS.out.keep.1) (by decide)
    have hba := back_at HI.out hj
    unfold Back3R at hbk
    rcases Nat.lt_or_ge j (up P a).length with hlt | hge
    · have hpos : 0 < backP P j a := by
        rcases Nat.eq_zero_or_pos (backP P j a) with h | h
        · rw [h, up_zero] at hba; simp at hba; omega
        · exact h
      rw [(back_one HIj.out hpos).1, (back_one HIj.out hpos).2, ← backP_succ] at hbk
      have ET := Aside0.mk (show toI ((up P a ++ [0]).take (j + 1 + 1)) = toI ((up P a ++ [0]).take (j + 1)) ++ [(backP P (j + 1) a : Int)] by rw [take_snoc _ 0 (j + 1) (by simp; omega), up_back HI.out (j + 1) (by omega), ← toI_snoc])
      have HLN := Aside0.mk (show (toI ((up P a ++ [0]).take (j + 1))).length ≤ 1000 by rw [toI_length, List.length_take]; omega)
      have HBK := Aside0.mk hbk
      have HI2 := Aside0.mk (HI.out.go (backP_in HI.out (j + 1) a hat))
      generalize hq : backP P (j + 1) a = q at HBK ET HI2
      clear hbk hba
      go_wp2_with (first
        | (go_at_call 14; (with_reducible refine HBK.out.mono ?_); rintro e w2 ⟨rfl, hs2⟩; have HR2 := Aside0.mk (row_kept0 HR.out hs2.keep hcl); have HC2 := Aside0.mk (hs2.chest HCj.out); have HS2 := Aside0.mk (HS.out.trans hs2); clear hs2)
        | (go_at_call 15; (with_reducible refine (At_calls c v P q base w2 HC2.out HI2.out.book.some_).mono ?_); rintro e w' ⟨rfl, rfl⟩)
        | (at_builtin; refine Kd.R_append (Kd.int .i64) (w0 := w2) w.heap.size rfl (.tmp 14) (.tmp 17) 37 3 (.int .i64 0) 8 rfl Tryz.underlying37 infoInt rfl (by decide) (by omega) u4 (toI ((up P a ++ [0]).take (j + 1))) (q : Int) [.int .i64 q] Tt (fun _ => False) rfl (by first | (go_simp; done) | (go_simp; rfl)) rfl (fun _ hk => hk.elim) (fun _ _ => trivial) HR2.out (Below.refl _ _) HS2.out.keep.1 (by have := HLN.out; omega) ?_; intro v8 w8 hR8 hb8 hg8 hat8; have HR8 := Aside0.mk hR8; have HS8 := Aside0.mk (HS2.out.above hb8 hcl hbs); clear hR8 hb8 hg8 hat8))
      go_roundg (200 - (j + 1))
      case measure => have := hgj.out; omega
      case rel => exact ⟨j + 1, by go_num, by omega, ⟨Nat.le_refl _⟩, ⟨by rw [ET.out]; exact HR8.out⟩, ⟨by rw [hq]; exact HS8.out⟩⟩
    · obtain rfl : j = (up P a).length := by omega
      have h0 : backP P (up P a).length a = 0 := by
        rw [Nat.sub_self] at hba
        rcases Nat.eq_zero_or_pos (backP P (up P a).length a) with h | h
        · exact h
        · have := up_pos HIj.out h; omega
      rw [h0] at hbk HCj
      have hE : BackE P 0 1 = 4 ∧ BackA P 0 1 = 0 := by unfold BackE BackA; rw [up_zero]; exact ⟨rfl, rfl⟩
      rw [hE.1, hE.2] at hbk
      have HBK := Aside0.mk hbk
      have HTK := Aside0.mk (show (up P a ++ [0]).take ((up P a).length + 1) = up P a ++ [0] from List.take_of_length_le (by simp))
      have HRV := Aside0.mk (show (toI (up P a ++ [0])).reverse = toI (waysF P a) by rw [toI_reverse]; unfold waysF wayP; simp)
      have HRL := Aside0.mk (show (toI (up P a ++ [0])).length ≤ 1000 by rw [toI_length]; simp; omega)
      have HWL := Aside0.mk (show (toI (waysF P a)).length = (up P a).length + 1 by rw [toI_length]; simp [waysF, wayP])
      have HPA : 0 < a → 0 < (up P a).length := fun h => up_pos HI.out h
      clear hbk hba hE h0
      rcases Nat.eq_zero_or_pos a with ha0 | ha0
      · have hz : ((up P a).length : Int) + 1 < 2 := by subst ha0; rw [up_zero]; decide
        have hz2 : ¬ (0 : Int) < (a : Int) := by omega
        clear ha0
        go_wp2_with (first
          | (go_at_call 14; (with_reducible refine HBK.out.mono ?_); rintro e w2 ⟨rfl, hs2⟩; have hR2 := row_kept0 HR.out hs2.keep hcl; rw [HTK.out] at hR2; have HR2 := Aside0.mk hR2; have HC2 := Aside0.mk (hs2.chest HCj.out); have HS2 := Aside0.mk (HS.out.trans hs2); clear hs2 hR2)
          | (go_at_call 13; have hz2 := Nat.le_trans hbs HS2.out.keep.1; (with_reducible refine (Go_calls3 c v P 0 base a w2 HC2.out hat hz2).mono ?_); rintro e w3 ⟨rfl, hs3⟩; have HR3 := Aside0.mk (row_kept0 HR2.out hs3.keep hcl); have HS3 := Aside0.mk (HS2.out.trans hs3); clear hs3)
          | (go_at_call 37; (with_reducible refine (reverse_calls _ _ w.heap.size w3 HR3.out HRL.out).mono ?_); rintro e w4 ⟨rfl, hR4, hb4⟩; rw [HRV.out] at hR4; obtain ⟨A4, k4, hv4⟩ := Kd.R_slice hR4; rw [HWL.out] at hv4; subst hv4; have HR4 := Aside0.mk hR4; have HS4 := Aside0.mk (HS3.out.above hb4 hcl hbs); clear hR4 hb4))
        go_ret
        exact ⟨_, rfl, HR4.out, HS4.out⟩
      · have hz : ¬ ((up P a).length : Int) + 1 < 2 := by have := HPA ha0; omega
        go_wp2_with (first
          | (go_at_call 14; (with_reducible refine HBK.out.mono ?_); rintro e w2 ⟨rfl, hs2⟩; have hR2 := row_kept0 HR.out hs2.keep hcl; rw [HTK.out] at hR2; have HR2 := Aside0.mk hR2; have HC2 := Aside0.mk (hs2.chest HCj.out); have HS2 := Aside0.mk (HS.out.trans hs2); clear hs2 hR2)
          | (go_at_call 13; have hz2 := Nat.le_trans hbs HS2.out.keep.1; (with_reducible refine (Go_calls3 c v P 0 base a w2 HC2.out hat hz2).mono ?_); rintro e w3 ⟨rfl, hs3⟩; have HR3 := Aside0.mk (row_kept0 HR2.out hs3.keep hcl); have HS3 := Aside0.mk (HS2.out.trans hs3); clear hs3)
          | (go_at_call 37; (with_reducible refine (reverse_calls _ _ w.heap.size w3 HR3.out HRL.out).mono ?_); rintro e w4 ⟨rfl, hR4, hb4⟩; rw [HRV.out] at hR4; obtain ⟨A4, k4, hv4⟩ := Kd.R_slice hR4; rw [HWL.out] at hv4; subst hv4; have HR4 := Aside0.mk hR4; have HS4 := Aside0.mk (HS3.out.above hb4 hcl hbs); clear hR4 hb4))
        go_ret
        exact ⟨_, rfl, HR4.out, HS4.out⟩
end Go.Proofs.YtccnfbjdpgmlhaaGreatDoor
