/- Walks of the chest: read. -/
import Derived.Test.YtccnfbjdpgmlhaaGreatDoorChI
import Derived.Test.YtccnfbjdpgmlhaaGreatDoorChS
import Derived.Deep.Cut
namespace Go.Proofs.YtccnfbjdpgmlhaaGreatDoor
open Go.RowKit Go.Proofs.YtccnfbjdpgmlhaaGreatDoorW.PrintWords Go.Proofs.YtccnfbjdpgmlhaaGreatDoorW.PrintLast Go.Proofs.YtccnfbjdpgmlhaaGreatDoorW.PrintMore
set_option linter.unusedVariables false
set_option linter.unusedSimpArgs false

/-- the words of a line, read by a form: n a name, else a number. -/
def readW : List UInt8 → List ByteArray → List ByteArray → List Int → Option (List ByteArray × List Int)
  | f :: fs, x :: xs, ns, ds => if f = 110 then (if nameOk x = true then readW fs xs (ns ++ [x]) ds else none) else (if numOk x = true then readW fs xs ns (ds ++ [numV x]) else none)
  | [], _, ns, ds => some (ns, ds)
  | _ :: _, [], ns, ds => some (ns, ds)
def readF (form text : ByteArray) : Option (List ByteArray × List Int) :=
  if (wordsOf text).length = form.size + 1 ∧ lineB text = true then readW form.data.toList ((wordsOf text).drop 1) [] [] else none
def ReadR (form text : ByteArray) (w : World) (e : Ending) (w' : World) : Prop :=
  Below w.heap.size w w' ∧ match readF form text with
  | some (ns, ds) => ∃ vn vd, e = .returned (.tuple #[.agg #[vn, vd], .bool true]) ∧ LineAt w' vn vd ns ds
  | none => e = .returned (.tuple #[.agg #[.slice none 0 0, .slice none 0 0], .bool false])
theorem ReadR.no {form text : ByteArray} {w : World} {e : Ending} {w' : World} (h : readF form text = none) (he : e = .returned (.tuple #[.agg #[.slice none 0 0, .slice none 0 0], .bool false])) (hb : Below w.heap.size w w') : ReadR form text w e w' := by
  refine ⟨hb, ?_⟩; rw [h]; exact he
theorem ReadR.yes {form text : ByteArray} {w : World} {e : Ending} {w' : World} {ns : List ByteArray} {ds : List Int} {vn vd : Value} (h : readF form text = some (ns, ds)) (he : e = .returned (.tuple #[.agg #[vn, vd], .bool true])) (hL : LineAt w' vn vd ns ds) (hb : Below w.heap.size w w') : ReadR form text w e w' := by
  refine ⟨hb, ?_⟩; rw [h]; exact ⟨vn, vd, he, hL⟩

theorem cut1 (b m : Nat) (W : World) : (Instr.slice 35 (.slice (some ⟨b, 0, none⟩) ((m + 1 : Nat)) ((m + 1 : Nat))) (some (.int .i64 1)) none none).run Tryz.prog W = .ok (.slice (some ⟨b, if m = 0 then 0 else 1, none⟩) m m) W := by
  obtain ⟨i0, hi, hz0, hz1, hz2⟩ := info_parts infoStr
  have hel : Tryz.prog.elem 35 = 9 := by simp [Program.elem, Tryz.underlying35]
  have hu : Tryz.prog.underlying 35 = some (.slice (Tryz.prog.elem 35)) := by rw [hel]; exact Tryz.underlying35
  rw [run_slice_l W 35 (some ⟨b, 0, none⟩) (m + 1) (m + 1) hu .i64 1 (by omega) (by omega), hel]
  by_cases h : m = 0
  · subst h; simp [sizeOf, typeInfo, hi, hz1, sliced, Result.andThen]
  · simp [sizeOf, typeInfo, hi, hz1, sliced, Result.andThen, h, Addr.add]
/-- what reading has made: the line's block, the words' block, both rows. -/
def ReadM (w W : World) (ws : List ByteArray) (vn vd : Value) (ns : List ByteArray) (ds : List Int) : Prop :=
  W.heap[w.heap.size]? = some (.cells #[vn, vd] 82 (0, 0)) ∧ W.heap[w.heap.size + 1]? = some (.cells (ws.map Value.string).toArray 9 (0, 0)) ∧ Kd.R Kd.string 9 W (w.heap.size + 2) Tt vn ns ∧ Kd.R (Kd.int .i64) 3 W (w.heap.size + 2) Tt vd ds ∧ Below w.heap.size w W
theorem ReadM.below {w W W' : World} {ws : List ByteArray} {vn vd : Value} {ns : List ByteArray} {ds : List Int} (h : ReadM w W ws vn vd ns ds) (hb : Below W.heap.size W W') : ReadM w W' ws vn vd ns ds :=
  ⟨blk_below h.1 hb, blk_below h.2.1 hb, Kd.R_below h.2.2.1 hb, Kd.R_below h.2.2.2.1 hb, h.2.2.2.2.trans (hb.mono h.2.2.2.2.size)⟩
theorem ReadM.putName {w W W1 : World} {ws : List ByteArray} {vn vd v1 : Value} {ns ns1 : List ByteArray} {ds : List Int} (h : ReadM w W ws vn vd ns ds) (hg : W.grownBy W1 vn.ownBlock) (hR : Kd.R Kd.string 9 W1 (w.heap.size + 2) Tt v1 ns1) :
    W1.heap[w.heap.size]? = some (.cells #[vn, vd] 82 (0, 0)) ∧ ReadM w (W1.setCell ⟨w.heap.size, 0, none⟩ v1) ws v1 vd ns1 ds := by
  obtain ⟨h1, h2, h3, h4, h5⟩ := h
  have ne : ∀ k, k < w.heap.size + 2 → some k ≠ vn.ownBlock := fun k hk e => by have := Kd.R_base h3 k e.symm; omega
  have b1 := blk_grown h1 hg (ne _ (by omega))
  have b2 := blk_grown h2 hg (ne _ (by omega))
  refine ⟨b1, blk_set b1 0 v1, blk_far b2 (p := ⟨w.heap.size, 0, none⟩) (by show w.heap.size + 1 ≠ w.heap.size; omega) v1, Kd.R_set hR b1 (by simp [Kd.string, Kd.scalar]) 0 v1,
    Kd.R_set (Kd.R_over h4 h3 (by simp [Kd.int, Kd.scalar]) hg) b1 (by simp [Kd.int, Kd.scalar]) 0 v1, ?_⟩
  exact (h5.grown hg h5.size (fun k e => by have := Kd.R_base h3 k e; omega)).setCell (p := ⟨w.heap.size, 0, none⟩) (Nat.le_refl _) v1
theorem ReadM.putNum {w W W1 : World} {ws : List ByteArray} {vn vd v1 : Value} {ns : List ByteArray} {ds ds1 : List Int} (h : ReadM w W ws vn vd ns ds) (hg : W.grownBy W1 vd.ownBlock) (hR : Kd.R (Kd.int .i64) 3 W1 (w.heap.size + 2) Tt v1 ds1) :
    W1.heap[w.heap.size]? = some (.cells #[vn, vd] 82 (0, 0)) ∧ ReadM w (W1.setCell ⟨w.heap.size, 1, none⟩ v1) ws vn v1 ns ds1 := by
  obtain ⟨h1, h2, h3, h4, h5⟩ := h
  have ne : ∀ k, k < w.heap.size + 2 → some k ≠ vd.ownBlock := fun k hk e => by have := Kd.R_base h4 k e.symm; omega
  have b1 := blk_grown h1 hg (ne _ (by omega))
  have b2 := blk_grown h2 hg (ne _ (by omega))
  refine ⟨b1, blk_set b1 1 v1, blk_far b2 (p := ⟨w.heap.size, 1, none⟩) (by show w.heap.size + 1 ≠ w.heap.size; omega) v1, Kd.R_set (Kd.R_over h3 h4 (by simp [Kd.string, Kd.scalar]) hg) b1 (by simp [Kd.string, Kd.scalar]) 1 v1,
    Kd.R_set hR b1 (by simp [Kd.int, Kd.scalar]) 1 v1, ?_⟩
  exact (h5.grown hg h5.size (fun k e => by have := Kd.R_base h4 k e; omega)).setCell (p := ⟨w.heap.size, 1, none⟩) (Nat.le_refl _) v1
theorem ReadM.kept {w W : World} {ws : List ByteArray} {vn vd : Value} {ns : List ByteArray} {ds : List Int} (h : ReadM w W ws vn vd ns ds) : Below w.heap.size w W := h.2.2.2.2
theorem ReadM.big {w W : World} {ws : List ByteArray} {vn vd : Value} {ns : List ByteArray} {ds : List Int} (h : ReadM w W ws vn vd ns ds) : w.heap.size + 2 ≤ W.heap.size := by have := blk_lt h.2.1; omega
theorem ReadM.line {w W : World} {ws : List ByteArray} {vn vd : Value} {ns : List ByteArray} {ds : List Int} (h : ReadM w W ws vn vd ns ds) : LineAt W vn vd ns ds := ⟨_, h.2.2.1, h.2.2.2.1⟩
theorem ReadM.wipe {w W : World} {ws : List ByteArray} {vn vd : Value} {ns : List ByteArray} {ds : List Int} (h : ReadM w W ws vn vd ns ds) :
    (((W.setCell ⟨w.heap.size, 0, none⟩ (.slice none 0 0)).setCell ⟨w.heap.size, 1, none⟩ (.slice none 0 0)).heap[w.heap.size]? = some (.cells #[.slice none 0 0, .slice none 0 0] 82 (0, 0))) ∧
      Below w.heap.size w ((W.setCell ⟨w.heap.size, 0, none⟩ (.slice none 0 0)).setCell ⟨w.heap.size, 1, none⟩ (.slice none 0 0)) :=
  ⟨blk_set (blk_set h.1 0 _) 1 _, (h.kept.setCell (p := ⟨w.heap.size, 0, none⟩) (Nat.le_refl _) _).setCell (p := ⟨w.heap.size, 1, none⟩) (Nat.le_refl _) _⟩
theorem ReadM.again {w W : World} {ws : List ByteArray} {vn vd : Value} {ns : List ByteArray} {ds : List Int} (h : ReadM w W ws vn vd ns ds) :
    ReadM w ((W.setCell ⟨w.heap.size, 0, none⟩ vn).setCell ⟨w.heap.size, 1, none⟩ vd) ws vn vd ns ds := by
  have b1 := blk_set h.1 0 vn
  refine ⟨blk_set b1 1 vd, blk_far (blk_far h.2.1 (p := ⟨w.heap.size, 0, none⟩) (by show w.heap.size + 1 ≠ w.heap.size; omega) vn) (p := ⟨w.heap.size, 1, none⟩) (by show w.heap.size + 1 ≠ w.heap.size; omega) vd,
    Kd.R_set (Kd.R_set h.2.2.1 h.1 (by simp [Kd.string, Kd.scalar]) 0 vn) b1 (by simp [Kd.string, Kd.scalar]) 1 vd, Kd.R_set (Kd.R_set h.2.2.2.1 h.1 (by simp [Kd.int, Kd.scalar]) 0 vn) b1 (by simp [Kd.int, Kd.scalar]) 1 vd,
    (h.kept.setCell (p := ⟨w.heap.size, 0, none⟩) (Nat.le_refl _) _).setCell (p := ⟨w.heap.size, 1, none⟩) (Nat.le_refl _) _⟩
theorem extract_size_le (s : ByteArray) (a b : Nat) : (s.extract a b).size ≤ s.size := by
  rw [ByteArray.size_extract]; omega
theorem splitB_size (sep : ByteArray) (save : Nat) : ∀ (k : Nat) (s : ByteArray), ∀ x ∈ Lib.splitB sep save k s, x.size ≤ s.size := by
  intro k
  induction k with
  | zero => intro s x hx; rw [Lib.splitB_zero] at hx; rw [List.mem_singleton.mp hx]; exact Nat.le_refl _
  | succ k ih =>
    intro s x hx
    unfold Lib.splitB at hx
    split at hx
    · rw [List.mem_singleton.mp hx]; exact Nat.le_refl _
    · rcases List.mem_cons.mp hx with rfl | h
      · exact extract_size_le _ _ _
      · exact Nat.le_trans (ih _ x h) (extract_size_le _ _ _)
theorem words_size {s x : ByteArray} (h : x ∈ wordsOf s) : x.size ≤ s.size := splitB_size _ _ _ _ x h
set_option maxRecDepth 100000 in
set_option maxHeartbeats 4000000 in
theorem read_calls (n : Nat) (form text : ByteArray) (w : World) (hE : Env n w) (hnw : n ≤ w.heap.size) (hf : form.size ≤ 8) (ht : text.size ≤ 1048576) :
    Calls Tryz.prog 47 #[.string form, .string text] w (ReadR form text w) := by
  have hB1 : Below w.heap.size w (w.alloc (.cells #[.slice none 0 0, .slice none 0 0] 82)) := (Below.refl _ _).alloc (Nat.le_refl _) _
  have hsp := split_calls n text _ (hE.below hB1 hnw) ht
  have hsz : (w.alloc (.cells #[.slice none 0 0, .slice none 0 0] 82)).heap.size = w.heap.size + 1 := by simp
  rw [hsz] at hsp
  obtain ⟨m, hm⟩ : ∃ m, (wordsOf text).length = m + 1 := ⟨_, wordsOf_length text⟩
  have hcut := cut1 (w.heap.size + 1) m
  have HM0 := Aside0.mk (show ReadM w ((w.alloc (.cells #[.slice none 0 0, .slice none 0 0] 82)).alloc (.cells ((wordsOf text).map Value.string).toArray 9)) (wordsOf text) (.slice none 0 0) (.slice none 0 0) [] [] from
    ⟨blk_alloc (blk_new _ _) _, by have := blk_new (w.alloc (.cells #[.slice none 0 0, .slice none 0 0] 82)) (.cells ((wordsOf text).map Value.string).toArray 9); rw [hsz] at this; exact this, Kd.R_nil _ _ _ _ _, Kd.R_nil _ _ _ _ _, hB1.alloc (by rw [hsz]; omega) _⟩)
  have HL := Aside0.mk (fun (W : World) (hW : Below w.heap.size w W) => isLine_calls n text W (hE.below hW hnw))
  have HN := Aside0.mk (fun (s : ByteArray) (W : World) (hW : Below w.heap.size w W) (hs : s.size ≤ 1048576) => number_calls n s W (hE.below hW hnw) (Nat.le_trans hnw hW.size) hs)
  have HE := Aside0.mk hE
  have HMM := Aside0.mk hm
  rw [hm] at hsp
  have ho1 : 0 < m → (if m = 0 then 0 else 1 : Nat) = 1 := fun h => by rw [if_neg (by omega)]
  generalize (if m = 0 then 0 else 1 : Nat) = o1 at hcut ho1
  have HO := Aside0.mk ho1
  clear hB1 hE hm ho1 hsz
  go_enter Tryz.func47, Tryz.ntmps47
  by_cases c1 : m = form.size
  · subst c1
    cases hcl : lineB text with
    | false =>
      have E := Aside0.mk (show readF form text = none by unfold readF; rw [if_neg (fun h => by rw [hcl] at h; exact absurd h.2 (by decide))])
      rw [hcl] at HL
      clear hcl
      go_wp2_with (first | (go_at_call 78; (with_reducible refine hsp.mono ?_); rintro e w' ⟨rfl, rfl⟩) | (go_at_call 79; (with_reducible refine (HL.out _ HM0.out.kept).mono ?_); rintro e w2 ⟨rfl, hb2⟩; have HM2 := Aside0.mk (HM0.out.below hb2); have y0 := (blk_cell HM2.out.1 0).trans rfl; have y1 := (blk_cell HM2.out.1 1).trans rfl; have q0 := blk_frozen HM2.out.1 0; have q1 := blk_frozen HM2.out.1 1; clear hb2))
      have z := HM2.out.wipe
      exact bodyPost_ret (v := .tuple #[.agg #[.slice none 0 0, .slice none 0 0], .bool false]) (by simp [results, Tryz.results47, go_sem, blk_cell z.1 0, blk_cell z.1 1]) rfl (ReadR.no E.out rfl z.2)
    | true =>
      have E0 := Aside0.mk (show readF form text = readW form.data.toList ((wordsOf text).drop 1) [] [] by unfold readF; rw [if_pos ⟨HMM.out, hcl⟩])
      rw [hcl] at HL
      clear hcl
      go_wp2_with (first | (go_at_call 78; (with_reducible refine hsp.mono ?_); rintro e w' ⟨rfl, rfl⟩) | (go_at_call 79; (with_reducible refine (HL.out _ HM0.out.kept).mono ?_); rintro e w2 ⟨rfl, hb2⟩; have HM2 := Aside0.mk (HM0.out.below hb2); have y0 := (blk_cell HM2.out.1 0).trans rfl; have y1 := (blk_cell HM2.out.1 1).trans rfl; have q0 := blk_frozen HM2.out.1 0; have q1 := blk_frozen HM2.out.1 1; clear hb2))
      go_loopg [26] form.size (fun gg s26 W => ∃ (k : Nat) (ns : List ByteArray) (ds : List Int) (vn vd : Value), s26 = .int .i64 k ∧ k ≤ form.size ∧ Aside0 (form.size - k ≤ gg) ∧ Aside0 (readW (form.data.toList.drop k) ((wordsOf text).drop (k + 1)) ns ds = readF form text) ∧ Aside0 (ReadM w W (wordsOf text) vn vd ns ds) ∧ Aside0 (ns.length + ds.length = k))
      case atStart => exact ⟨0, [], [], _, _, rfl, Nat.zero_le _, ⟨by omega⟩, ⟨by rw [E0.out]; rfl⟩, HM2, ⟨rfl⟩⟩
      case round =>
        obtain ⟨k, ns, ds, vn, vd, rfl, hk, hgk, HR, HM, HC⟩ := hrel
        rcases Nat.lt_or_ge k form.size with hlt | hge
        · have hltz : (k : Int) < (form.size : Int) := by omega
          have hk0 : (0 : Int) ≤ (k : Int) := by omega
          have hkw : k + 1 < (wordsOf text).length := by have := HMM.out; omega
          have xw : wr.cell? ⟨w.heap.size + 1, o1 + k, none⟩ = some (.string ((wordsOf text).getD (k + 1) ByteArray.empty)) := by
            rw [HO.out (by omega), blk_cell HM.out.2.1, List.getElem?_toArray, List.getElem?_map, Nat.add_comm 1 k, List.getElem?_eq_getElem hkw, List.getD_eq_getElem?_getD, List.getElem?_eq_getElem hkw]; rfl
          have z0 := (blk_cell HM.out.1 0).trans rfl
          have z1 := (blk_cell HM.out.1 1).trans rfl
          have f0 := blk_frozen HM.out.1 0
          have f1 := blk_frozen HM.out.1 1
          have hdr : form.data.toList.drop k = (form[k]'hlt) :: form.data.toList.drop (k + 1) := by
            have h1 : k < form.data.toList.length := by rw [Array.length_toList]; exact hlt
            rw [List.drop_eq_getElem_cons h1]; rfl
          have hdw : (wordsOf text).drop (k + 1) = (wordsOf text).getD (k + 1) ByteArray.empty :: (wordsOf text).drop (k + 1 + 1) := drop_at _ _ _ hkw
          have HRR := Aside0.mk (show readF form text = if (form[k]'hlt) = 110 then (if nameOk ((wordsOf text).getD (k + 1) ByteArray.empty) = true then readW (form.data.toList.drop (k + 1)) ((wordsOf text).drop (k + 1 + 1)) (ns ++ [(wordsOf text).getD (k + 1) ByteArray.empty]) ds else none) else (if numOk ((wordsOf text).getD (k + 1) ByteArray.empty) = true then readW (form.data.toList.drop (k + 1)) ((wordsOf text).drop (k + 1 + 1)) ns (ds ++ [numV ((wordsOf text).getD (k + 1) ByteArray.empty)]) else none) from by
            rw [← HR.out, hdr, hdw]; rfl)
          have hxs : (((wordsOf text).getD (k + 1) ByteArray.empty).size ≤ 1048576) := Nat.le_trans (words_size (getD_mem hkw)) ht
          clear HR hdr hdw
          generalize (wordsOf text).getD (k + 1) ByteArray.empty = x at xw HRR hxs
          by_cases hfk : (form[k]'hlt) = 110
          · have hfb : (((form[k]'hlt).toNat : Int) == 110) = true := by rw [hfk]; rfl
            have HLN := Aside0.mk (show (ns ++ [x]).length = ns.length + 1 by simp)
            have hin := Aside0.mk (fun (W : World) => isName_calls x W)
            cases hnx : nameOk x with
            | true =>
              have E := Aside0.mk (show readW (form.data.toList.drop (k + 1)) ((wordsOf text).drop (k + 1 + 1)) (ns ++ [x]) ds = readF form text by rw [HRR.out, if_pos hfk, if_pos hnx])
              rw [hnx] at hin
              clear hfk hnx
              go_wp2_with (first
                | (at_builtin; refine Kd.R_append Kd.string (w0 := wr) (w.heap.size + 2) rfl (.tmp 36) (.tmp 38) 35 9 (.string ByteArray.empty) 16 rfl Tryz.underlying35 infoStr rfl (by decide) (by omega) vn ns x [.string x] Tt (fun _ => False) rfl (by first | (go_simp; done) | (go_simp; rfl)) rfl (fun _ hk => hk.elim) (fun _ _ => trivial) HM.out.2.2.1 (Below.refl _ _) HM.out.big (by have := HC.out; omega) ?_; intro v1 w2 hR2 hb2 hg2 hat2; obtain ⟨A2, k2, rfl⟩ := Kd.R_slice hR2; rw [HLN.out] at hR2; have HP := Aside0.mk (HM.out.putName hg2 hR2); have g0 := (blk_cell HP.out.1 0).trans rfl; have e0 := blk_frozen HP.out.1 0; clear hR2 hb2 hg2 hat2)
                | (go_at_call 80; (with_reducible refine (hin.out _).mono ?_); rintro e w3 ⟨rfl, hb3⟩; have HM3 := Aside0.mk (HP.out.2.below hb3); clear hb3; have y0 := (blk_cell HM3.out.1 0).trans rfl; have y1 := (blk_cell HM3.out.1 1).trans rfl; have y2 := blk_frozen HM3.out.1 0; have y3 := blk_frozen HM3.out.1 1))
              go_roundg (form.size - (k + 1))
              case measure => have := hgk.out; omega
              case rel => exact ⟨k + 1, ns ++ [x], ds, _, _, by go_num, by omega, ⟨Nat.le_refl _⟩, E, HM3, ⟨by have := HC.out; have := HLN.out; omega⟩⟩
            | false =>
              have E := Aside0.mk (show readF form text = none by rw [HRR.out, if_pos hfk, if_neg (by rw [hnx]; decide)])
              rw [hnx] at hin
              clear hfk hnx
              go_wp2_with (first
                | (at_builtin; refine Kd.R_append Kd.string (w0 := wr) (w.heap.size + 2) rfl (.tmp 36) (.tmp 38) 35 9 (.string ByteArray.empty) 16 rfl Tryz.underlying35 infoStr rfl (by decide) (by omega) vn ns x [.string x] Tt (fun _ => False) rfl (by first | (go_simp; done) | (go_simp; rfl)) rfl (fun _ hk => hk.elim) (fun _ _ => trivial) HM.out.2.2.1 (Below.refl _ _) HM.out.big (by have := HC.out; omega) ?_; intro v1 w2 hR2 hb2 hg2 hat2; obtain ⟨A2, k2, rfl⟩ := Kd.R_slice hR2; rw [HLN.out] at hR2; have HP := Aside0.mk (HM.out.putName hg2 hR2); have g0 := (blk_cell HP.out.1 0).trans rfl; have e0 := blk_frozen HP.out.1 0; clear hR2 hb2 hg2 hat2)
                | (go_at_call 80; (with_reducible refine (hin.out _).mono ?_); rintro e w3 ⟨rfl, hb3⟩; have HM3 := Aside0.mk (HP.out.2.below hb3); clear hb3; have y0 := (blk_cell HM3.out.1 0).trans rfl; have y1 := (blk_cell HM3.out.1 1).trans rfl; have y2 := blk_frozen HM3.out.1 0; have y3 := blk_frozen HM3.out.1 1))
              have z := HM3.out.wipe
              exact bodyPost_ret (v := .tuple #[.agg #[.slice none 0 0, .slice none 0 0], .bool false]) (by simp [results, Tryz.results47, go_sem, blk_cell z.1 0, blk_cell z.1 1]) rfl (ReadR.no E.out rfl z.2)
          · have hfb : (((form[k]'hlt).toNat : Int) == 110) = false := by
              rw [beq_eq_false_iff_ne]
              intro h
              exact hfk (UInt8.toNat_inj.mp (by have h2 : ((form[k]'hlt).toNat : Int) = 110 := h; show (form[k]'hlt).toNat = 110; omega))
            have HLN := Aside0.mk (fun v => (show (ds ++ [v]).length = ds.length + 1 by simp))
            have hin := Aside0.mk (fun (W : World) (hW : Below w.heap.size w W) => HN.out x W hW hxs)
            unfold NumR at hin
            cases hnx : numOk x with
            | true =>
              have E := Aside0.mk (show readW (form.data.toList.drop (k + 1)) ((wordsOf text).drop (k + 1 + 1)) ns (ds ++ [numV x]) = readF form text by rw [HRR.out, if_neg hfk, if_pos hnx])
              rw [hnx] at hin
              clear hfk hnx
              generalize numV x = nv at hin E
              replace HLN := Aside0.mk (HLN.out nv)
              go_wp2_with (first
                | (go_at_call 81; (with_reducible refine (hin.out _ HM.out.kept).mono ?_); rintro e w2 ⟨rfl, hb2⟩; have HM2 := Aside0.mk (HM.out.below hb2); clear hb2; have y0 := (blk_cell HM2.out.1 0).trans rfl; have y1 := (blk_cell HM2.out.1 1).trans rfl; have y2 := blk_frozen HM2.out.1 0; have y3 := blk_frozen HM2.out.1 1)
                | (at_builtin; refine Kd.R_append (Kd.int .i64) (w0 := w2) (w.heap.size + 2) rfl (.tmp 49) (.tmp 51) 37 3 (.int .i64 0) 8 rfl Tryz.underlying37 infoInt rfl (by decide) (by omega) vd ds nv [.int .i64 nv] Tt (fun _ => False) rfl (by first | (go_simp; done) | (go_simp; rfl)) rfl (fun _ hk => hk.elim) (fun _ _ => trivial) HM2.out.2.2.2.1 (Below.refl _ _) HM2.out.big (by have := HC.out; omega) ?_; intro v1 w3 hR2 hb2 hg2 hat2; obtain ⟨A2, k2, rfl⟩ := Kd.R_slice hR2; rw [HLN.out] at hR2; have HP := Aside0.mk (HM2.out.putNum hg2 hR2); have HM3 := Aside0.mk HP.out.2; have g0 := (blk_cell HP.out.1 0).trans rfl; have g1 := (blk_cell HP.out.1 1).trans rfl; have e0 := blk_frozen HP.out.1 0; have e1 := blk_frozen HP.out.1 1; clear hR2 hb2 hg2 hat2))
              go_roundg (form.size - (k + 1))
              case measure => have := hgk.out; omega
              case rel => exact ⟨k + 1, ns, ds ++ [nv], _, _, by go_num, by omega, ⟨Nat.le_refl _⟩, E, HM3, ⟨by have := HC.out; have := HLN.out; omega⟩⟩
            | false =>
              have E := Aside0.mk (show readF form text = none by rw [HRR.out, if_neg hfk, if_neg (by rw [hnx]; decide)])
              rw [hnx] at hin
              clear hfk hnx
              generalize numV x = nv at hin
              replace HLN := Aside0.mk (HLN.out nv)
              go_wp2_with (first
                | (go_at_call 81; (with_reducible refine (hin.out _ HM.out.kept).mono ?_); rintro e w2 ⟨rfl, hb2⟩; have HM2 := Aside0.mk (HM.out.below hb2); clear hb2; have y0 := (blk_cell HM2.out.1 0).trans rfl; have y1 := (blk_cell HM2.out.1 1).trans rfl; have y2 := blk_frozen HM2.out.1 0; have y3 := blk_frozen HM2.out.1 1)
                | (at_builtin; refine Kd.R_append (Kd.int .i64) (w0 := w2) (w.heap.size + 2) rfl (.tmp 49) (.tmp 51) 37 3 (.int .i64 0) 8 rfl Tryz.underlying37 infoInt rfl (by decide) (by omega) vd ds nv [.int .i64 nv] Tt (fun _ => False) rfl (by first | (go_simp; done) | (go_simp; rfl)) rfl (fun _ hk => hk.elim) (fun _ _ => trivial) HM2.out.2.2.2.1 (Below.refl _ _) HM2.out.big (by have := HC.out; omega) ?_; intro v1 w3 hR2 hb2 hg2 hat2; obtain ⟨A2, k2, rfl⟩ := Kd.R_slice hR2; rw [HLN.out] at hR2; have HP := Aside0.mk (HM2.out.putNum hg2 hR2); have HM3 := Aside0.mk HP.out.2; have g0 := (blk_cell HP.out.1 0).trans rfl; have g1 := (blk_cell HP.out.1 1).trans rfl; have e0 := blk_frozen HP.out.1 0; have e1 := blk_frozen HP.out.1 1; clear hR2 hb2 hg2 hat2))
              have z := HM3.out.wipe
              exact bodyPost_ret (v := .tuple #[.agg #[.slice none 0 0, .slice none 0 0], .bool false]) (by simp [results, Tryz.results47, go_sem, blk_cell z.1 0, blk_cell z.1 1]) rfl (ReadR.no E.out rfl z.2)
        · have hltz : ¬ (k : Int) < (form.size : Int) := by omega
          obtain rfl : k = form.size := by omega
          have E := Aside0.mk (show readF form text = some (ns, ds) by
            rw [← HR.out, show form.data.toList.drop form.size = [] from List.drop_eq_nil_of_le (by rw [Array.length_toList]; exact Nat.le_refl _)]
            cases ((wordsOf text).drop (form.size + 1)) <;> rfl)
          have z0 := (blk_cell HM.out.1 0).trans rfl
          have z1 := (blk_cell HM.out.1 1).trans rfl
          have f0 := blk_frozen HM.out.1 0
          have f1 := blk_frozen HM.out.1 1
          obtain ⟨A5, k5, rfl⟩ := Kd.R_slice HM.out.2.2.1
          obtain ⟨A6, k6, rfl⟩ := Kd.R_slice HM.out.2.2.2.1
          have HF := Aside0.mk HM.out.again
          have y0 := (blk_cell HF.out.1 0).trans rfl
          have y1 := (blk_cell HF.out.1 1).trans rfl
          go_wp2
          exact bodyPost_ret (v := .tuple #[.agg #[.slice A5 ns.length k5, .slice A6 ds.length k6], .bool true]) (by simp [results, Tryz.results47, go_sem, y0, y1]) rfl (ReadR.yes E.out rfl HF.out.line HF.out.kept)
  · have E := Aside0.mk (show readF form text = none by unfold readF; rw [if_neg (fun h => c1 (by have := h.1; have := HMM.out; omega))])
    have c1b : ((m : Int) != (form.size : Int)) = true := by simp; omega
    go_wp2_with (first | (go_at_call 78; (with_reducible refine hsp.mono ?_); rintro e w' ⟨rfl, rfl⟩))
    have z := HM0.out.1
    exact bodyPost_ret (v := .tuple #[.agg #[.slice none 0 0, .slice none 0 0], .bool false]) (by simp [results, Tryz.results47, go_sem, blk_cell z 0, blk_cell z 1]) rfl (ReadR.no E.out rfl HM0.out.kept)
end Go.Proofs.YtccnfbjdpgmlhaaGreatDoor
