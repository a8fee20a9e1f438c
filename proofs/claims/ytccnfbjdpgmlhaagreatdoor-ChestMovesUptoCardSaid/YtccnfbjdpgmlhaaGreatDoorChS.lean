/- Walks of the chest: what a line, a name, a number is. Walks of the chest: isName, number. -/
import Derived.Test.YtccnfbjdpgmlhaaGreatDoorChG
import Derived.Lib.ConvBytes
import Derived.Lib.SmallJoins
import Derived.Lib.AppendIntMem
import Derived.Lib.SplitLaws
import Derived.Laws.RangeAny
import Derived.WalkSmall
import Derived.BigQuiet
namespace Go.Proofs.YtccnfbjdpgmlhaaGreatDoor
open Go.RowKit Go.Proofs.YtccnfbjdpgmlhaaGreatDoorW.PrintWords Go.Proofs.YtccnfbjdpgmlhaaGreatDoorW.PrintLast Go.Proofs.YtccnfbjdpgmlhaaGreatDoorW.PrintMore
set_option linter.unusedVariables false
set_option linter.unusedSimpArgs false

/-- what the library's variables hold, all below block n. -/
structure Env (n : Nat) (w : World) : Prop where
  lt : 0 < n ∧ 2 < n ∧ 3 < n ∧ 1 < n
  max : ∃ m, w.cell? ⟨0, 0, none⟩ = some (.int .i64 m)
  syn : ∃ te pe, w.cell? ⟨2, 0, none⟩ = some (.iface te pe)
  rng : ∃ te pe, w.cell? ⟨3, 0, none⟩ = some (.iface te pe)
  tab : Lib.TabIs Tryz.prog w "internal/strconv.uint64pow10" .u64 Lib.pow10Tab
theorem pow10_named : Tryz.prog.globalNamed "internal/strconv.uint64pow10" = some 1 := by kernel_rfl
theorem Env.below {n m : Nat} {w w' : World} (h : Env n w) (hb : Below m w w') (hn : n ≤ m) : Env n w' := by
  obtain ⟨l1, l2, l3, l4⟩ := h.lt
  obtain ⟨x, hx⟩ := h.max
  obtain ⟨t1, p1, h1⟩ := h.syn
  obtain ⟨t2, p2, h2⟩ := h.rng
  exact ⟨h.lt, ⟨x, (hb.cell (p := ⟨0, 0, none⟩) (show 0 < m by omega)).trans hx⟩, ⟨t1, p1, (hb.cell (p := ⟨2, 0, none⟩) (show 2 < m by omega)).trans h1⟩,
    ⟨t2, p2, (hb.cell (p := ⟨3, 0, none⟩) (show 3 < m by omega)).trans h2⟩, var?_below hb pow10_named (by omega) h.tab⟩

/-- the words of a line. -/
abbrev spc : ByteArray := ⟨#[32]⟩
def wordsOf (s : ByteArray) : List ByteArray := Lib.splitB spc 0 (Lib.countB s spc) s
theorem wordsOf_length (s : ByteArray) : (wordsOf s).length = Lib.countB s spc + 1 := Lib.splitB_all spc (by decide) 0 _ s rfl
theorem words_cells (s : ByteArray) (w : World) (j : Nat) (hj : j < (wordsOf s).length) : (w.alloc (.cells ((wordsOf s).map Value.string).toArray 9)).cell? ⟨w.heap.size, j, none⟩ = some (.string ((wordsOf s).getD j ByteArray.empty)) := by
  refine (blk_cell (blk_new w _) j).trans ?_
  rw [List.getElem?_toArray, List.getElem?_map, List.getElem?_eq_getElem hj, List.getD_eq_getElem?_getD, List.getElem?_eq_getElem hj]; rfl
theorem split_calls (n : Nat) (s : ByteArray) (w : World) (hE : Env n w) (hs : s.size ≤ 1048576) :
    Calls Tryz.prog 78 #[.string s, .string spc] w fun e w' => e = .returned (.slice (some ⟨w.heap.size, 0, none⟩) (wordsOf s).length (wordsOf s).length) ∧ w.alloc (.cells ((wordsOf s).map Value.string).toArray 9) = w' := by
  obtain ⟨m, hm⟩ := hE.max
  refine (Tryz.strings_Split s spc m w (by omega) hm (by decide)).mono (fun e w' h => ⟨?_, h.2.symm⟩)
  rw [wordsOf_length]; exact h.1

def badC (c : Int) : Bool := decide (c < 32) || decide (126 < c)
def byteL (s : ByteArray) : List Int := s.data.toList.map (fun c => (c.toNat : Int))
theorem byteL_length (s : ByteArray) : (byteL s).length = s.size := by unfold byteL; rw [List.length_map, Array.length_toList]; rfl
theorem byteL_range (s : ByteArray) : ∀ x ∈ byteL s, 0 ≤ x ∧ x ≤ 255 := by
  intro x hx
  obtain ⟨c, _, rfl⟩ := List.mem_map.mp hx
  have := c.toNat_lt
  omega
def lineB (s : ByteArray) : Bool := decide (s.size ≤ 60) && (!Lib.containsS (wordsOf s) ⟨#[]⟩ && !(byteL s).any badC)
theorem isLine1_calls (x : Int) (w : World) (h0 : 0 ≤ x) (h1 : x ≤ 255) : Calls Tryz.prog 110 #[.int .u8 x] w fun e w' => e = .returned (.bool (badC x)) ∧ w = w' := by
  by_cases c1 : x < 32
  · have E := Aside0.mk (show badC x = true by unfold badC; rw [decide_eq_true c1]; rfl)
    go_enter Tryz.func110, Tryz.ntmps110
    go_wp2
    go_ret
    exact ⟨by rw [E.out]; rfl, rfl⟩
  · by_cases c2 : 126 < x
    · have E := Aside0.mk (show badC x = true by unfold badC; rw [decide_eq_true c2, Bool.or_true])
      go_enter Tryz.func110, Tryz.ntmps110
      go_wp2
      go_ret
      exact ⟨by rw [E.out]; rfl, rfl⟩
    · have E := Aside0.mk (show badC x = false by unfold badC; rw [decide_eq_false c1, decide_eq_false c2]; rfl)
      go_enter Tryz.func110, Tryz.ntmps110
      go_wp2
      go_ret
      exact ⟨by rw [E.out]; rfl, rfl⟩
theorem anyBad_calls (s : ByteArray) (w : World) (c : Nat) (hc : s.size ≤ c) (hs : s.size ≤ 1048576) :
    Calls Tryz.prog 109 #[.slice (some ⟨w.heap.size, 0, none⟩) s.size c, .func (.func 110) #[] #[]] (Lib.bytesWorld w 5 s) fun e w' => e = .returned (.bool ((byteL s).any badC)) ∧ Below w.heap.size w w' := by
  have hC : Kd.C (Kd.int .u8) (Lib.bytesWorld w 5 s) (some ⟨w.heap.size, 0, none⟩) (byteL s).length (byteL s) := Kd.C_of_reads (d := (0 : Int)) ⟨rfl, by rw [byteL_length]; omega, fun _ => ⟨_, rfl, fun j hj => by
    rw [byteL_length] at hj
    rw [add_plain, Lib.bytesWorld_cell w _ s j hj]
    have hj' : j < s.data.toList.length := by rw [Array.length_toList]; exact hj
    rw [byteL, List.getD_eq_getElem?_getD, List.getD_eq_getElem?_getD, List.getElem?_map, List.getElem?_eq_getElem hj']; rfl⟩⟩
  have h := any_byte 110 #[] badC (some ⟨w.heap.size, 0, none⟩) c (byteL s) (Lib.bytesWorld w 5 s) (enters_of Tryz.func110 (by kernel_rfl) rfl)
    (fun W x hx hB => (isLine1_calls x W (byteL_range s x hx).1 (byteL_range s x hx).2).mono fun e w' ⟨he, hw⟩ => ⟨he, by rw [← hw]; exact Below.refl _ _⟩) hC (by rw [byteL_length]; exact hc) (by rw [byteL_length]; omega)
  rw [byteL_length] at h
  exact h.mono (fun e w' h => ⟨h.1, (Joins.below_bytesWorld _ w _ s (Nat.le_refl _)).trans (h.2.mono (by rw [Lib.bytesWorld_size]; omega))⟩)
set_option maxHeartbeats 2000000 in
theorem isLine_calls (n : Nat) (s : ByteArray) (w : World) (hE : Env n w) :
    Calls Tryz.prog 79 #[.string s] w fun e w' => e = .returned (.bool (lineB s)) ∧ Below w.heap.size w w' := by
  by_cases c1 : s.size ≤ 60
  · have hsp := split_calls n s w hE (by omega)
    have hct := Tryz.slices_Contains_string w.heap.size 0 (wordsOf s).length (wordsOf s).length (wordsOf s) ⟨#[]⟩ (w.alloc (.cells ((wordsOf s).map Value.string).toArray 9)) (Nat.le_refl _)
      (by have := Lib.countB_le spc (by decide) s.size s (Nat.le_refl _); rw [wordsOf_length]; omega) (fun j hj => by rw [Nat.zero_add]; exact words_cells s w j hj)
    rw [List.take_length] at hct
    have hb1 : Below w.heap.size w (w.alloc (.cells ((wordsOf s).map Value.string).toArray 9)) := (Below.refl _ _).alloc (Nat.le_refl _) _
    have c1b : decide ((s.size : Int) ≤ 60) = true := decide_eq_true (by omega)
    have hl := Aside0.mk (show lineB s = (!Lib.containsS (wordsOf s) ⟨#[]⟩ && !(byteL s).any badC) by unfold lineB; rw [decide_eq_true c1]; rfl)
    generalize hW : w.alloc (.cells ((wordsOf s).map Value.string).toArray 9) = w1 at hsp hct hb1
    have HB1 := Aside0.mk hb1
    clear hW hb1 hE
    cases hcc : Lib.containsS (wordsOf s) ⟨#[]⟩ with
    | true =>
      have E := Aside0.mk (show lineB s = false by rw [hl.out, hcc]; rfl)
      rw [hcc] at hct
      clear hcc
      go_enter Tryz.func79, Tryz.ntmps79
      go_wp2_with (first | (go_at_call 78; (with_reducible refine hsp.mono ?_); rintro e w' ⟨rfl, rfl⟩) | (go_at_call 108; (with_reducible refine hct.mono ?_); rintro e w' ⟨rfl, rfl⟩))
      go_ret
      exact ⟨by rw [E.out]; rfl, HB1.out⟩
    | false =>
      rw [hcc] at hct
      have E := Aside0.mk (show lineB s = !(byteL s).any badC by rw [hl.out, hcc]; rfl)
      have kc := Lib.run_convert_string_bytes (P := Tryz.prog) w1 9 39 5 s Tryz.underlying9 Tryz.underlying39 Tryz.underlying5
      have hab := fun (c : Nat) (hc : s.size ≤ c) => anyBad_calls s w1 c hc (by omega)
      have hgr : s.size ≤ grownCap w1 s.size 0 5 := grownCap_ge _ _ _ _
      have hab2 := Aside0.mk (hab _ hgr)
      generalize grownCap w1 s.size 0 5 = cp at kc hab2
      clear hcc hab hgr
      go_enter Tryz.func79, Tryz.ntmps79
      go_wp2_with (first | (go_at_call 78; (with_reducible refine hsp.mono ?_); rintro e w' ⟨rfl, rfl⟩) | (go_at_call 108; (with_reducible refine hct.mono ?_); rintro e w' ⟨rfl, rfl⟩) | (go_at_call 109; (with_reducible refine hab2.out.mono ?_); rintro e w' ⟨rfl, hb2⟩))
      go_ret
      exact ⟨by rw [E.out]; rfl, HB1.out.trans (hb2.mono HB1.out.size)⟩
  · have E := Aside0.mk (show lineB s = false by unfold lineB; rw [decide_eq_false c1]; rfl)
    have c1b : decide ((s.size : Int) ≤ 60) = false := decide_eq_false (by omega)
    have c1c : ¬ (s.size : Int) ≤ 60 := by omega
    go_enter Tryz.func79, Tryz.ntmps79
    go_wp2
    go_ret
    exact ⟨by rw [E.out]; rfl, Below.refl _ _⟩
end Go.Proofs.YtccnfbjdpgmlhaaGreatDoor

namespace Go.Proofs.YtccnfbjdpgmlhaaGreatDoor
open Go.RowKit Go.Proofs.YtccnfbjdpgmlhaaGreatDoorW.PrintWords Go.Proofs.YtccnfbjdpgmlhaaGreatDoorW.PrintLast Go.Proofs.YtccnfbjdpgmlhaaGreatDoorW.PrintMore
set_option linter.unusedVariables false
set_option linter.unusedSimpArgs false

def lowC (c : UInt8) : Bool := decide (97 ≤ c.toNat) && decide (c.toNat ≤ 122)
def nameOk (s : ByteArray) : Bool := s.data.toList.all lowC && (!s.toList.isEmpty && decide (s.size ≤ 8))
/-- one rune: a byte from a to z, or one that is none. -/
theorem rune_cases (s : ByteArray) (pos : Nat) (h : pos < s.size) :
    ((Utf8.decode s pos).1 < 97 ∧ lowC (s.data.toList.getD pos 0) = false) ∨ (97 ≤ (Utf8.decode s pos).1 ∧ 122 < (Utf8.decode s pos).1 ∧ lowC (s.data.toList.getD pos 0) = false) ∨ (97 ≤ (Utf8.decode s pos).1 ∧ (Utf8.decode s pos).1 ≤ 122 ∧ (Utf8.decode s pos).2 = 1 ∧ lowC (s.data.toList.getD pos 0) = true) := by
  have e : s.data.toList.getD pos 0 = s[pos]'h := by
    rw [List.getD_eq_getElem?_getD, Array.getElem?_toList, Array.getElem?_eq_getElem (show pos < s.data.size from h)]; rfl
  rw [e]
  by_cases ha : (s[pos]'h).toNat < 128
  · rw [decode_ascii s pos h ha]
    by_cases h1 : (s[pos]'h).toNat < 97
    · exact .inl ⟨h1, by unfold lowC; rw [decide_eq_false (by omega)]; rfl⟩
    · by_cases h2 : 122 < (s[pos]'h).toNat
      · exact .inr (.inl ⟨by omega, h2, by unfold lowC; rw [decide_eq_false (p := (s[pos]'h).toNat ≤ 122) (by omega), Bool.and_false]⟩)
      · exact .inr (.inr ⟨by omega, by omega, rfl, by unfold lowC; rw [decide_eq_true (p := 97 ≤ (s[pos]'h).toNat) (by omega), decide_eq_true (p := (s[pos]'h).toNat ≤ 122) (by omega)]; rfl⟩)
  · have := decode_high s pos h (by omega)
    exact .inr (.inl ⟨by omega, by omega, by unfold lowC; rw [decide_eq_false (p := (s[pos]'h).toNat ≤ 122) (by omega), Bool.and_false]⟩)
theorem all_false {s : ByteArray} {pos : Nat} (h : pos < s.size) (hl : lowC (s.data.toList.getD pos 0) = false) : nameOk s = false := by
  have hlt : pos < s.data.toList.length := by rw [Array.length_toList]; exact h
  unfold nameOk
  rw [show s.data.toList.all lowC = false from ?_]; rfl
  rw [List.all_eq_false]
  exact ⟨_, getD_mem (z := 0) hlt, by rw [hl]; decide⟩
theorem all_true {s : ByteArray} (h : ∀ j, j < s.size → lowC (s.data.toList.getD j 0) = true) : nameOk s = (!s.toList.isEmpty && decide (s.size ≤ 8)) := by
  unfold nameOk
  rw [show s.data.toList.all lowC = true from ?_]; rfl
  rw [List.all_eq_true]
  intro x hx
  obtain ⟨j, hj, rfl⟩ := List.getElem_of_mem hx
  have := h j (by rw [Array.length_toList] at hj; exact hj)
  rw [List.getD_eq_getElem?_getD, List.getElem?_eq_getElem hj] at this
  exact this
theorem iter_below (w : World) (s : ByteArray) (pos : Nat) : Below w.heap.size w (w.iter s pos) := (Below.refl _ _).alloc (Nat.le_refl _) _
set_option maxHeartbeats 2000000 in
theorem isName_calls (s : ByteArray) (w : World) : Calls Tryz.prog 80 #[.string s] w fun e w' => e = .returned (.bool (nameOk s)) ∧ Below w.heap.size w w' := by
  go_enter Tryz.func80, Tryz.ntmps80
  go_wp2
  go_loopg [] s.size (fun gg W => ∃ pos : Nat, pos ≤ s.size ∧ Aside0 (s.size - pos ≤ gg) ∧ w.iter s pos = W ∧ Aside0 (∀ j, j < pos → lowC (s.data.toList.getD j 0) = true))
  case atStart => exact ⟨0, Nat.zero_le _, ⟨by omega⟩, rfl, ⟨fun j hj => absurd hj (Nat.not_lt_zero _)⟩⟩
  case round =>
    obtain ⟨pos, hp, hg, rfl, HA⟩ := hrel
    rcases Nat.lt_or_ge pos s.size with hlt | hge
    · have hnx : ∀ ty, (Instr.next (.pointer (some ⟨w.heap.size, 0, none⟩)) true ty).run Tryz.prog (w.iter s pos) = _ := fun ty => run_next_any w s pos ty hlt
      rcases rune_cases s pos hlt with ⟨h1, h2⟩ | ⟨h0, h1, h2⟩ | ⟨h0, h1, h3, h2⟩
      · have E := Aside0.mk (all_false hlt h2)
        have h1z : ((Utf8.decode s pos).1 : Int) < 97 := by omega
        generalize (Utf8.decode s pos).1 = r at hnx h1z
        generalize (Utf8.decode s pos).2 = q at hnx
        clear h1 h2
        go_wp2
        go_ret
        exact ⟨by rw [E.out]; rfl, iter_below _ _ _⟩
      · have E := Aside0.mk (all_false hlt h2)
        have h1z : ¬ ((Utf8.decode s pos).1 : Int) < 97 := by omega
        have h2z : (122 : Int) < ((Utf8.decode s pos).1 : Int) := by omega
        generalize (Utf8.decode s pos).1 = r at hnx h1z h2z
        generalize (Utf8.decode s pos).2 = q at hnx
        clear h0 h1 h2
        go_wp2
        go_ret
        exact ⟨by rw [E.out]; rfl, iter_below _ _ _⟩
      · have E := Aside0.mk (show ∀ j, j < pos + 1 → lowC (s.data.toList.getD j 0) = true from fun j hj => by
          rcases (show j < pos ∨ j = pos by omega) with h | rfl
          · exact HA.out j h
          · exact h2)
        have h1z : ¬ ((Utf8.decode s pos).1 : Int) < 97 := by omega
        have h2z : ¬ (122 : Int) < ((Utf8.decode s pos).1 : Int) := by omega
        rw [h3] at hnx
        generalize (Utf8.decode s pos).1 = r at hnx h1z h2z
        clear h0 h1 h2 h3
        go_wp2
        go_roundg (s.size - (pos + 1))
        case measure => have := hg.out; omega
        case rel => exact ⟨pos + 1, by omega, ⟨Nat.le_refl _⟩, rfl, E⟩
    · have hnx : ∀ ty, (Instr.next (.pointer (some ⟨w.heap.size, 0, none⟩)) true ty).run Tryz.prog (w.iter s pos) = _ := fun ty => run_next_end w s pos ty (by omega)
      have E := Aside0.mk (all_true (s := s) (fun j hj => HA.out j (by omega)))
      cases e1 : s.toList.isEmpty with
      | true =>
        have E2 := Aside0.mk (show nameOk s = false by rw [E.out, e1]; rfl)
        have e1b : s.toList = [] := List.isEmpty_iff.mp e1
        clear hge hp
        go_wp2
        go_ret
        exact ⟨by rw [E2.out]; rfl, iter_below _ _ _⟩
      | false =>
        by_cases e2 : s.size ≤ 8
        · have E2 := Aside0.mk (show nameOk s = true by rw [E.out, e1, decide_eq_true e2]; rfl)
          have e2z : (s.size : Int) ≤ 8 := by omega
          go_wp2
          go_ret
          exact ⟨by rw [E2.out]; rfl, iter_below _ _ _⟩
        · have E2 := Aside0.mk (show nameOk s = false by rw [E.out, e1, decide_eq_false e2]; rfl)
          have e2z : ¬ (s.size : Int) ≤ 8 := by omega
          go_wp2
          go_ret
          exact ⟨by rw [E2.out]; rfl, iter_below _ _ _⟩

def numV (s : ByteArray) : Int := match Lib.atoiAll s.data.toList with | .ok n => n | .range => Lib.atoiSat s.data.toList | _ => 0
def numOk (s : ByteArray) : Bool := match Lib.atoiAll s.data.toList with | .ok n => decide (0 ≤ n) && (decide (s.size ≤ 3) && (Lib.itoa n == s.toList)) | _ => false
def NumR (s : ByteArray) (w : World) (e : Ending) (w' : World) : Prop := e = .returned (.tuple #[.int .i64 (numV s), .bool (numOk s)]) ∧ Below w.heap.size w w'
set_option maxHeartbeats 2000000 in
theorem number_calls (n : Nat) (s : ByteArray) (w : World) (hE : Env n w) (hnw : n ≤ w.heap.size) (hs : s.size ≤ 1048576) : Calls Tryz.prog 81 #[.string s] w (NumR s w) := by
  cases ha : Lib.atoiAll s.data.toList with
  | ok v =>
    have hat := Tryz.strconv_Atoi_ok s (by omega) v ha w
    have hb := Lib.atoiAll_bounds ha
    have hV := Aside0.mk (show numV s = v by unfold numV; rw [ha])
    have hO := Aside0.mk (show numOk s = (decide (0 ≤ v) && (decide (s.size ≤ 3) && (Lib.itoa v == s.toList))) by unfold numOk; rw [ha])
    have hat2 : Calls Tryz.prog 111 #[.string s] w fun e w' => e = .returned (.tuple #[.int .i64 v, .nilIface]) ∧ Below w.heap.size w w' := hat.mono (fun e w' h => ⟨h.1, by
      rcases h.2 with h2 | ⟨t, h2⟩
      · rw [h2]; exact Below.refl _ _
      · rw [h2]; exact Joins.below_bytesWorld _ w _ t (Nat.le_refl _)⟩)
    have hit := Aside0.mk (fun (W : World) (hW : Below w.heap.size w W) => (Tryz.strconv_Itoa v hb.1 hb.2 W (hE.below hW hnw).tab).mono (R' := fun e w' => e = .returned (.string ⟨(Lib.itoa v).toArray⟩) ∧ Below W.heap.size W w') (fun e w' h => ⟨h.1, by obtain ⟨k, os, h2⟩ := h.2; rw [h2]; exact Lib.below_grow _ W (Nat.le_refl _) k os⟩))
    clear hat ha hE
    by_cases c1 : 0 ≤ v
    · by_cases c2 : s.size ≤ 3
      · have c2z : (s.size : Int) ≤ 3 := by omega
        generalize Lib.itoa v = dg at hO hit
        cases c3 : (dg == s.toList) with
        | true =>
          have E := Aside0.mk (show numOk s = true by rw [hO.out, decide_eq_true c1, decide_eq_true c2, c3]; rfl)
          go_enter Tryz.func81, Tryz.ntmps81
          go_wp2_with (first | (go_at_call 111; (with_reducible refine hat2.mono ?_); rintro e w1 ⟨rfl, hb1⟩; have HB1 := Aside0.mk hb1; clear hb1) | (go_at_call 64; (with_reducible refine (hit.out _ HB1.out).mono ?_); rintro e w2 ⟨rfl, hb2⟩; have HB2 := Aside0.mk hb2; clear hb2))
          go_ret2
          exact ⟨by rw [E.out, hV.out]; rfl, HB1.out.trans (HB2.out.mono HB1.out.size)⟩
        | false =>
          have E := Aside0.mk (show numOk s = false by rw [hO.out, decide_eq_true c1, decide_eq_true c2, c3]; rfl)
          go_enter Tryz.func81, Tryz.ntmps81
          go_wp2_with (first | (go_at_call 111; (with_reducible refine hat2.mono ?_); rintro e w1 ⟨rfl, hb1⟩; have HB1 := Aside0.mk hb1; clear hb1) | (go_at_call 64; (with_reducible refine (hit.out _ HB1.out).mono ?_); rintro e w2 ⟨rfl, hb2⟩; have HB2 := Aside0.mk hb2; clear hb2))
          go_ret2
          exact ⟨by rw [E.out, hV.out]; rfl, HB1.out.trans (HB2.out.mono HB1.out.size)⟩
      · have c2z : ¬ (s.size : Int) ≤ 3 := by omega
        have E := Aside0.mk (show numOk s = false by rw [hO.out, decide_eq_true c1, decide_eq_false c2]; rfl)
        go_enter Tryz.func81, Tryz.ntmps81
        go_wp2_with (first | (go_at_call 111; (with_reducible refine hat2.mono ?_); rintro e w1 ⟨rfl, hb1⟩; have HB1 := Aside0.mk hb1; clear hb1))
        go_ret2
        exact ⟨by rw [E.out, hV.out]; rfl, HB1.out⟩
    · have E := Aside0.mk (show numOk s = false by rw [hO.out, decide_eq_false c1]; rfl)
      go_enter Tryz.func81, Tryz.ntmps81
      go_wp2_with (first | (go_at_call 111; (with_reducible refine hat2.mono ?_); rintro e w1 ⟨rfl, hb1⟩; have HB1 := Aside0.mk hb1; clear hb1))
      go_ret2
      exact ⟨by rw [E.out, hV.out]; rfl, HB1.out⟩
  | range =>
    obtain ⟨te, pe, hr⟩ := hE.rng
    have hat := (Tryz.strconv_Atoi_range s (by omega) ha (.iface te pe) w hr (Or.inr ⟨te, pe, rfl⟩)).mono (R' := fun e w' => ∃ te' pe', e = .returned (.tuple #[.int .i64 (Lib.atoiSat s.data.toList), .iface te' pe']) ∧ Below w.heap.size w w') (fun e w' ⟨N, h1, _, _, h2⟩ => ⟨_, _, h1, h2⟩)
    have hV := Aside0.mk (show numV s = Lib.atoiSat s.data.toList by unfold numV; rw [ha])
    have E := Aside0.mk (show numOk s = false by unfold numOk; rw [ha])
    clear hr hE ha
    generalize Lib.atoiSat s.data.toList = sat at hat hV
    go_enter Tryz.func81, Tryz.ntmps81
    go_wp2_with (first | (go_at_call 111; (with_reducible refine hat.mono ?_); rintro e w1 ⟨te', pe', rfl, hb1⟩; have HB1 := Aside0.mk hb1; clear hb1))
    go_ret2
    exact ⟨by rw [E.out, hV.out]; rfl, HB1.out⟩
  | _ =>
    obtain ⟨te, pe, hr⟩ := hE.syn
    have hat : Calls Tryz.prog 111 #[.string s] w (fun e w' => ∃ te' pe', e = .returned (.tuple #[.int .i64 0, .iface te' pe']) ∧ Below w.heap.size w w') := (Any.strconv_Atoi_syntax Tryz.laysC172 s (by omega) ha (.iface te pe) w hr (Or.inr ⟨te, pe, rfl⟩)).mono (fun e w' ⟨N, h1, _, _, h2⟩ => ⟨_, _, h1, h2⟩)
    have hV := Aside0.mk (show numV s = 0 by unfold numV; rw [ha])
    have E := Aside0.mk (show numOk s = false by unfold numOk; rw [ha])
    clear hr hE ha
    go_enter Tryz.func81, Tryz.ntmps81
    go_wp2_with (first | (go_at_call 111; (with_reducible refine hat.mono ?_); rintro e w1 ⟨te', pe', rfl, hb1⟩; have HB1 := Aside0.mk hb1; clear hb1))
    go_ret2
    exact ⟨by rw [E.out, hV.out]; rfl, HB1.out⟩
end Go.Proofs.YtccnfbjdpgmlhaaGreatDoor
