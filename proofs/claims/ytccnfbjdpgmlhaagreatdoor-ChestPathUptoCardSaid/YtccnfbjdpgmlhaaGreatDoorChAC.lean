/- Walks of the library's strings.Builder. Walks of the chest: numbers, names. Walks of the library: slices.Grow at nil, slices.Concat of two rows. Walks of the chest: the closure of text, joins. -/
import Derived.Test.YtccnfbjdpgmlhaaGreatDoorChG
import Derived.Lib.Builder
import Derived.Lib.AppendStr
import Derived.Test.YtccnfbjdpgmlhaaGreatDoorChS
import Derived.Test.YtccnfbjdpgmlhaaGreatDoorChU
import Derived.Test.YtccnfbjdpgmlhaaGreatDoorWZeros
namespace Go.Proofs.YtccnfbjdpgmlhaaGreatDoor
open Go.RowKit Go.Proofs.YtccnfbjdpgmlhaaGreatDoorW.PrintWords Go.Proofs.YtccnfbjdpgmlhaaGreatDoorW.PrintLast Go.Proofs.YtccnfbjdpgmlhaaGreatDoorW.PrintMore
set_option linter.unusedVariables false
set_option linter.unusedSimpArgs false

theorem infoByte1 : (Tryz.prog.info? 5).map (fun i => (i.zero, i.size, i.bytes)) = some (some (.int .u8 0), 1, 1) := by kernel_rfl
theorem sizeBuilder : (Tryz.prog.info? 94).map (·.size) = some 2 := by kernel_rfl
theorem liesBuilder : liesAt Tryz.prog Tryz.prog.depth 94 (2 / Tryz.prog.cellsOf 94) 0 94 1 = true := by kernel_rfl
theorem noEscape_run (x : Value) (w : World) : (callFunc 150 #[x]).run Tryz.prog w = .ok (.value x) w := by
  rw [run_callFunc_extern Tryz.func150 (by kernel_rfl) (by kernel_rfl) (by kernel_rfl) (e := Extern.AbiNoEscape.same) (by kernel_rfl), Lib.run_noEscape]
  rfl
set_option maxHeartbeats 1000000 in
set_option maxRecDepth 100000 in
theorem copyCheck_fresh (b : Nat) (w : World) (h0 : w.cell? ⟨b, 0, none⟩ = some (.pointer none)) (hsh : w.shape? b = some (94, 2)) (hfz : w.frozen? ⟨b, 0, none⟩ = false) :
    Calls Tryz.prog 97 #[.pointer (some ⟨b, 0, none⟩)] w fun e w' => e = .returned (.tuple #[]) ∧ w' = w.setCell ⟨b, 0, none⟩ (.pointer (some ⟨b, 0, none⟩)) := by
  obtain ⟨j, hj, hjs⟩ := Option.map_eq_some_iff.1 sizeBuilder
  go_enter Tryz.func97, Tryz.ntmps97
  go_wp2
  rw [Lib.run_to_unsafe (P := Tryz.prog) w ⟨b, 0, none⟩ Tryz.underlying92 Tryz.underlying205 hj (by rw [hjs]; decide) hsh (Nat.zero_lt_succ 1)]
  simp only [Result.andThen]
  rw [Oper.upon_value]
  go_wp2
  rw [run_callFunc_extern Tryz.func150 (by kernel_rfl) (by kernel_rfl) (by kernel_rfl) (e := Extern.AbiNoEscape.same) (by kernel_rfl)]
  rw [Lib.run_noEscape]
  simp only [Result.andThen]
  rw [Oper.upon_value]
  go_wp2
  rw [Lib.run_from_unsafe (P := Tryz.prog) w ⟨b, 0, none⟩ Tryz.underlying205 Tryz.underlying92 hj hsh liesBuilder]
  simp only [Result.andThen]
  rw [Oper.upon_value]
  go_wp2
  go_end0
  exact ⟨rfl, rfl⟩
set_option maxHeartbeats 1000000 in
set_option maxRecDepth 100000 in
theorem copyCheck_used (b : Nat) (w : World) (h0 : w.cell? ⟨b, 0, none⟩ = some (.pointer (some ⟨b, 0, none⟩))) :
    Calls Tryz.prog 97 #[.pointer (some ⟨b, 0, none⟩)] w fun e w' => e = .returned (.tuple #[]) ∧ w' = w := by
  obtain ⟨j, hj, _⟩ := Option.map_eq_some_iff.1 sizeBuilder
  go_enter Tryz.func97, Tryz.ntmps97
  go_wp2
  rw [Lib.run_neq_ptr_same w _ Tryz.underlying92 hj]
  go_wp2
  go_end0
  exact ⟨rfl, rfl⟩
/-- no block but b and rows of bytes has turned. -/
def BytesBut (b : Nat) (w w' : World) : Prop := ∀ (g t : Nat) (cells : Array Value), w.heap[g]? = some (.cells cells t (0, 0)) → t ≠ 5 → g ≠ b → w'.heap[g]? = some (.cells cells t (0, 0))
theorem BytesBut.refl (b : Nat) (w : World) : BytesBut b w w := fun _ _ _ h _ _ => h
theorem BytesBut.set_ {b : Nat} {w w' : World} (h : BytesBut b w w') (j : Nat) (u : Value) : BytesBut b w (w'.setCell ⟨b, j, none⟩ u) := fun g t cells hg ht hb => (Below.heap_setCell w' ⟨b, j, none⟩ u g hb).trans (h g t cells hg ht hb)
theorem copyCheck_calls (B b : Nat) (bs : List Value) (w : World) (h : Lib.IsBuilder 94 5 B b bs w) :
    Calls Tryz.prog 97 #[.pointer (some ⟨b, 0, none⟩)] w fun e w' => e = .returned (.tuple #[]) ∧ (Lib.BuilderAt 94 5 B b (.pointer (some ⟨b, 0, none⟩)) bs w' ∧ Below B w w') ∧ BytesBut b w w' := by
  rcases h with h | h
  · refine (copyCheck_fresh b w h.cell0 h.shape h.frozen0).mono ?_
    rintro e w' ⟨rfl, rfl⟩
    exact ⟨rfl, ⟨h.used _, (Below.refl B w).setCell (p := ⟨b, 0, none⟩) h.1 _⟩, (BytesBut.refl b w).set_ 0 _⟩
  · refine (copyCheck_used b w h.cell0).mono ?_
    rintro e w' ⟨rfl, rfl⟩
    exact ⟨rfl, ⟨h, Below.refl B _⟩, BytesBut.refl b _⟩
theorem rowSlice {w : World} {B : Nat} {v : Value} {n : Nat} {xs : List Value} (h : w.ownsRow B 5 1 v n xs) : ∃ ao cap, v = .slice ao n cap := by
  rcases h.2 with ⟨hv, h0⟩ | ⟨g, cap, cur, hv, _⟩
  · exact ⟨none, 0, by rw [hv, h0]⟩
  · exact ⟨_, cap, hv⟩
set_option maxHeartbeats 2000000 in
set_option maxRecDepth 100000 in
theorem writeString_calls (B b : Nat) (bs : List Value) (s : ByteArray) (w : World) (h : Lib.IsBuilder 94 5 B b bs w) (hlen : bs.length + s.size ≤ 140737488355328) (hBw : B ≤ w.heap.size) :
    Calls Tryz.prog 63 #[.pointer (some ⟨b, 0, none⟩), .string s] w fun e w' => e = .returned (.tuple #[.int .i64 s.size, .nilIface]) ∧ (Lib.BuilderAt 94 5 B b (.pointer (some ⟨b, 0, none⟩)) (bs ++ Lib.strCells s) w' ∧ Below B w w') ∧ BytesBut b w w' := by
  obtain ⟨i0, hi, hz0, hz1, hz2⟩ := info_parts infoByte1
  have hcc := copyCheck_calls B b bs w h
  clear h
  go_enter Tryz.func63, Tryz.ntmps63
  go_wp2_with (go_at_call 97; refine hcc.mono ?_)
  rintro e w1 ⟨rfl, ⟨h1, hb1⟩, hbb⟩
  obtain ⟨hB, v, hbk, hown, hne⟩ := h1
  have c0 : w1.cell? ⟨b, 0, none⟩ = some (.pointer (some ⟨b, 0, none⟩)) := by rw [Lib.cell_of_heap hbk]; rfl
  have c1 : w1.cell? ⟨b, 1, none⟩ = some v := by rw [Lib.cell_of_heap hbk]; rfl
  go_wp2_with (at_builtin; refine Lib.wpList_append_own_string _ rfl _ _ 39 9 rfl B 5 i0 Tryz.underlying39 Tryz.underlying9 hi hz0 hz1 hz2 _ _ _ rfl hown s rfl ?c3 ?c4 ?c5 ?_)
  case c3 => unfold maxLen; omega
  case c4 => omega
  case c5 => have := hb1.size; omega
  intro v' w2 hown' hgrow _
  have hlt : b < w1.heap.size := blk_lt hbk
  have hb2 : w2.heap[b]? = some (.cells #[.pointer (some ⟨b, 0, none⟩), v] 94 (0, 0)) := by
    rw [hgrow.block b hlt (fun e => hne e.symm)]
    exact hbk
  have d1 : w2.cell? ⟨b, 1, none⟩ = some v := by rw [Lib.cell_of_heap hb2]; rfl
  have df := Lib.frozen_of_heap hb2 1
  obtain ⟨ao, cap, rfl⟩ := rowSlice hown'
  go_wp2
  go_ret2
  refine ⟨rfl, ⟨?_, ?_⟩, ?_⟩
  rotate_left 2
  · refine BytesBut.set_ (fun g t cells hg ht hb => ?_) 1 _
    have h3 := hbb g t cells hg ht hb
    refine blk_grown h3 hgrow (fun e1 => ?_)
    obtain ⟨cs, hc⟩ := own_typed hown g e1.symm
    rw [h3] at hc
    injection hc with hc
    injection hc with _ hc
    exact ht hc
  · exact Lib.BuilderAt.put (T := 94) (e := 5) hB hb2 (bs' := bs ++ Lib.strCells s) (by simpa [Lib.strCells_length] using hown') (by decide)
  · exact (hb1.grown hgrow (by have := hb1.size; omega) (fun k hk => (hown.lt k hk).1)).setCell (p := ⟨b, 1, none⟩) hB _
end Go.Proofs.YtccnfbjdpgmlhaaGreatDoor

namespace Go.Proofs.YtccnfbjdpgmlhaaGreatDoor
open Go.RowKit Go.Proofs.YtccnfbjdpgmlhaaGreatDoorW.PrintWords Go.Proofs.YtccnfbjdpgmlhaaGreatDoorW.PrintLast Go.Proofs.YtccnfbjdpgmlhaaGreatDoorW.PrintMore
set_option linter.unusedVariables false
set_option linter.unusedSimpArgs false

def itoaB (n : Int) : ByteArray := ⟨(Lib.itoa n).toArray⟩
def numbersF (l : List Int) : List ByteArray := l.map itoaB
theorem numbersF_length (l : List Int) : (numbersF l).length = l.length := by simp [numbersF]
def StrsR (base : Nat) (l : List ByteArray) (w : World) (e : Ending) (w' : World) : Prop := ∃ v, e = .returned v ∧ Kd.R Kd.string 9 w' base Tt v l ∧ Below w.heap.size w w'
theorem itoa_calls (n : Nat) (x : Int) (w : World) (hE : Env n w) (h0 : -9223372036854775808 ≤ x) (h1 : x ≤ 9223372036854775807) :
    Calls Tryz.prog 64 #[.int .i64 x] w fun e w' => e = .returned (.string (itoaB x)) ∧ Below w.heap.size w w' :=
  (Tryz.strconv_Itoa x h0 h1 w hE.tab).mono (fun e w' h => ⟨h.1, by obtain ⟨k, os, h2⟩ := h.2; rw [h2]; exact Lib.below_grow _ w (Nat.le_refl _) k os⟩)
set_option maxHeartbeats 2000000 in
theorem numbers_calls (n : Nat) (A : Option Addr) (c : Nat) (l : List Int) (w : World) (hE : Env n w) (hnw : n ≤ w.heap.size) (hr : ReadsInt w .i64 A l.length l) (hb : ∀ x ∈ l, -9223372036854775808 ≤ x ∧ x ≤ 9223372036854775807) (hl : l.length ≤ 1000) :
    Calls Tryz.prog 67 #[.slice A l.length c] w (StrsR w.heap.size (numbersF l) w) := by
  have HE := Aside0.mk hE
  have HR0 := Aside0.mk hr
  have HBD := Aside0.mk hb
  clear hE hr hb
  go_enter Tryz.func67, Tryz.ntmps67
  go_wp2
  go_loopg [3, 8] l.length (fun gg s3 s8 W => ∃ (k : Nat), s8 = .int .i64 k ∧ k ≤ l.length ∧ Aside0 (l.length - k ≤ gg) ∧ Aside0 (Kd.R Kd.string 9 W w.heap.size Tt s3 ((numbersF l).take k)) ∧ Aside0 (Below w.heap.size w W))
  case atStart => exact ⟨0, rfl, Nat.zero_le _, ⟨by omega⟩, ⟨Kd.R_nil _ _ _ _ _⟩, ⟨Below.refl _ _⟩⟩
  case round =>
    obtain ⟨k, rfl, hk, hgk, HR, BW⟩ := hrel
    rcases Nat.lt_or_ge k l.length with hlt | hge
    · have hltz : (k : Int) < (l.length : Int) := by omega
      have hk0 : (0 : Int) ≤ (k : Int) := by omega
      obtain ⟨ad, rfl, hx⟩ := HR0.out.2.2 (by omega)
      have hxk := (BW.out.cell (World.block_lt_of_cell? w _ (hx k hlt))).trans (hx k hlt)
      have hbd := HBD.out _ (getD_mem (z := (0 : Int)) hlt)
      have ET := Aside0.mk (take_snoc (numbersF l) ByteArray.empty k (by rw [numbersF_length]; exact hlt))
      have eK : (numbersF l).getD k ByteArray.empty = itoaB (l.getD k 0) := by
        rw [numbersF, List.getD_eq_getElem?_getD, List.getD_eq_getElem?_getD, List.getElem?_map, List.getElem?_eq_getElem hlt]; rfl
      rw [eK] at ET
      have hit := Aside0.mk (itoa_calls n (l.getD k 0) wr (HE.out.below BW.out hnw) hbd.1 hbd.2)
      clear hx eK hbd
      generalize l.getD k 0 = x at hxk ET hit
      generalize itoaB x = y at ET hit
      go_wp2_with (first
        | (go_at_call 64; (with_reducible refine hit.out.mono ?_); rintro e w2 ⟨rfl, hb2⟩; have HR2 := Aside0.mk (Kd.R_below HR.out hb2); have HB2 := Aside0.mk (BW.out.trans (hb2.mono BW.out.size)); clear hb2)
        | (at_builtin; refine Kd.R_append Kd.string (w0 := w) w.heap.size rfl (.tmp 12) (.tmp 15) 35 9 (.string ByteArray.empty) 16 rfl Tryz.underlying35 infoStr rfl (by decide) (by omega) u3 ((numbersF l).take k) y [.string y] Tt (fun _ => False) rfl (by first | (go_simp; done) | (go_simp; rfl)) rfl (fun _ hk => hk.elim) (fun _ _ => trivial) HR2.out HB2.out HB2.out.size (by rw [List.length_take]; omega) ?_; intro v1 w3 hR3 hb3 hg3 hat3; have HR3 := Aside0.mk hR3; have HB3 := Aside0.mk hb3; clear hR3 hb3 hg3 hat3))
      go_roundg (l.length - (k + 1))
      case measure => have := hgk.out; omega
      case rel => exact ⟨k + 1, by go_num, by omega, ⟨Nat.le_refl _⟩, ⟨by rw [ET.out]; exact HR3.out⟩, HB3⟩
    · have hltz : ¬ (k : Int) < (l.length : Int) := by omega
      have E := Aside0.mk (show (numbersF l).take k = numbersF l from List.take_of_length_le (by rw [numbersF_length]; exact hge))
      go_wp2
      go_ret
      exact ⟨u3, rfl, by have := HR.out; rw [E.out] at this; exact this, BW.out⟩

def nameOf (s : St) (o : Int) : ByteArray := (s.leaves.getD o.toNat default).name
def namesF (s : St) (l : List Int) : List ByteArray := l.map (nameOf s)
theorem namesF_length (s : St) (l : List Int) : (namesF s l).length = l.length := by simp [namesF]
set_option maxHeartbeats 2000000 in
theorem names_calls (b base : Nat) (s : St) (A : Option Addr) (c : Nat) (l : List Int) (w : World) (h : StAt w base b s) (hr : ReadsInt w .i64 A l.length l) (hb : ∀ x ∈ l, 0 ≤ x ∧ x < s.leaves.length) (hl : l.length ≤ 1000) :
    Calls Tryz.prog 66 #[.pointer (some ⟨b, 0, none⟩), .slice A l.length c] w (StrsR w.heap.size (namesF s l) w) := by
  have HS := Aside0.mk h
  have HR0 := Aside0.mk hr
  have HBD := Aside0.mk hb
  clear h hr hb
  go_enter Tryz.func66, Tryz.ntmps66
  go_wp2
  go_loopg [5, 10] l.length (fun gg s5 s10 W => ∃ (k : Nat), s10 = .int .i64 k ∧ k ≤ l.length ∧ Aside0 (l.length - k ≤ gg) ∧ Aside0 (Kd.R Kd.string 9 W w.heap.size Tt s5 ((namesF s l).take k)) ∧ Aside0 (Below w.heap.size w W))
  case atStart => exact ⟨0, rfl, Nat.zero_le _, ⟨by omega⟩, ⟨Kd.R_nil _ _ _ _ _⟩, ⟨Below.refl _ _⟩⟩
  case round =>
    obtain ⟨k, rfl, hk, hgk, HR, BW⟩ := hrel
    rcases Nat.lt_or_ge k l.length with hlt | hge
    · have hltz : (k : Int) < (l.length : Int) := by omega
      have hk0 : (0 : Int) ≤ (k : Int) := by omega
      obtain ⟨ad, rfl, hx⟩ := HR0.out.2.2 (by omega)
      have hxk := (BW.out.cell (World.block_lt_of_cell? w _ (hx k hlt))).trans (hx k hlt)
      obtain ⟨hbd0, hbd1⟩ := HBD.out _ (getD_mem (z := (0 : Int)) hlt)
      have ET := Aside0.mk (take_snoc (namesF s l) ByteArray.empty k (by rw [namesF_length]; exact hlt))
      have eK : (namesF s l).getD k ByteArray.empty = nameOf s (l.getD k 0) := by
        rw [namesF, List.getD_eq_getElem?_getD, List.getD_eq_getElem?_getD, List.getElem?_map, List.getElem?_eq_getElem hlt]; rfl
      rw [eK] at ET
      clear hx eK
      generalize l.getD k 0 = x at hxk ET hbd0 hbd1
      obtain ⟨i, rfl⟩ : ∃ i : Nat, x = (i : Int) := ⟨x.toNat, by omega⟩
      have hil : i < s.leaves.length := by omega
      have HS2 := HS.out.below BW.out
      obtain ⟨g, cells, cap, hbc, hgb⟩ := HS2.leaf_blk (by omega)
      obtain ⟨g', e1, x0, x1, xf, hgg⟩ := HS2.leaf_at hbc i hil
      obtain rfl : g = g' := by injection e1 with e1; injection e1
      have hnm : nameOf s (i : Int) = (s.leaves.getD i default).name := by unfold nameOf; rw [Int.toNat_natCast]
      rw [← hnm] at x0
      clear hgb e1 x1 xf hgg hnm
      generalize nameOf s (i : Int) = y at x0 ET
      go_wp2_with (at_builtin; refine Kd.R_append Kd.string (w0 := w) w.heap.size rfl (.tmp 14) (.tmp 23) 35 9 (.string ByteArray.empty) 16 rfl Tryz.underlying35 infoStr rfl (by decide) (by omega) u5 ((namesF s l).take k) y [.string y] Tt (fun _ => False) rfl (by first | (go_simp; done) | (go_simp; rfl)) rfl (fun _ hk => hk.elim) (fun _ _ => trivial) HR.out BW.out BW.out.size (by rw [List.length_take]; omega) ?_; intro v1 w3 hR3 hb3 hg3 hat3; have HR3 := Aside0.mk hR3; have HB3 := Aside0.mk hb3; clear hR3 hb3 hg3 hat3)
      go_roundg (l.length - (k + 1))
      case measure => have := hgk.out; omega
      case rel => exact ⟨k + 1, by go_num, by omega, ⟨Nat.le_refl _⟩, ⟨by rw [ET.out]; exact HR3.out⟩, HB3⟩
    · have hltz : ¬ (k : Int) < (l.length : Int) := by omega
      have E := Aside0.mk (show (namesF s l).take k = namesF s l from List.take_of_length_le (by rw [namesF_length]; exact hge))
      go_wp2
      go_ret
      exact ⟨u5, rfl, by have := HR.out; rw [E.out] at this; exact this, BW.out⟩
end Go.Proofs.YtccnfbjdpgmlhaaGreatDoor

namespace Go.Proofs.YtccnfbjdpgmlhaaGreatDoor
open Go.RowKit Go.Proofs.YtccnfbjdpgmlhaaGreatDoorW.PrintWords Go.Proofs.YtccnfbjdpgmlhaaGreatDoorW.PrintLast Go.Proofs.YtccnfbjdpgmlhaaGreatDoorW.PrintMore
set_option linter.unusedVariables false
set_option linter.unusedSimpArgs false

set_option maxHeartbeats 2000000 in
theorem grow_calls (n : Nat) (h0 : 0 < n) (hn : n ≤ 1000) (w : World) :
    Calls Tryz.prog 99 #[.slice none 0 0, .int .i64 n] w fun e w' => ∃ v, e = .returned v ∧ Kd.R (Kd.int .i64) 3 w' w.heap.size Tt v [] ∧ Below w.heap.size w w' := by
  obtain ⟨i0, hi, hz0, hz1, hz2⟩ := info_parts infoInt
  have hcut := fun (A : Option Addr) (c : Nat) (hc : n ≤ c) => cut_to (P := Tryz.prog) 37 3 .i64 Tryz.underlying37 hi A n c 0 (by omega) (by omega) hc
  have HCUT := Aside0.mk hcut
  clear hcut hi hz0 hz1 hz2
  go_enter Tryz.func99, Tryz.ntmps99
  go_wp2_with (at_builtin; refine Kd.R_append_zeros (Kd.int .i64) (w0 := w) w.heap.size rfl (.tmp 20) (.tmp 21) 37 3 3 (.int .i64 0) 8 rfl Tryz.underlying37 Tryz.underlying3 infoInt rfl (by decide) (by omega) (.slice none 0 0) [] (0 : Int) (n : Int) Tt rfl rfl rfl (fun _ _ => trivial) (Kd.R_nil _ _ _ _ _) (by omega) (Below.refl _ _) (Nat.le_refl _) (by simp; omega) ?_; intro v1 w1 hR1 hb1 hg1 hat1; obtain ⟨A, c, rfl⟩ := Kd.R_slice hR1; have HR1 := Aside0.mk hR1; have HB1 := Aside0.mk hb1; clear hR1 hb1 hg1 hat1)
  go_ret
  exact ⟨_, rfl, by have := Kd.R_take HR1.out (m := 0) (Nat.zero_le _); rwa [List.take_zero] at this, HB1.out⟩

def rowOf (l1 l2 : List Int) (k : Nat) : List Int := if k = 0 then l1 else l2
set_option maxHeartbeats 4000000 in
theorem concat_calls (g cg : Nat) (A1 A2 : Option Addr) (c1 c2 : Nat) (l1 l2 : List Int) (w : World) (h1 : ReadsInt w .i64 A1 2 l1) (h2 : ReadsInt w .i64 A2 2 l2)
    (hg0 : w.cell? ⟨g, 0, none⟩ = some (.slice A1 2 c1)) (hg1 : w.cell? ⟨g, 1, none⟩ = some (.slice A2 2 c2)) :
    Calls Tryz.prog 68 #[.slice (some ⟨g, 0, none⟩) 2 cg] w fun e w' => ∃ v, e = .returned v ∧ Kd.R (Kd.int .i64) 3 w' w.heap.size Tt v (l1 ++ l2) ∧ Below w.heap.size w w' := by
  have hgl : g < w.heap.size := World.block_lt_of_cell? w _ hg0
  have HG := Aside0.mk (And.intro hg0 hg1)
  have HRD := Aside0.mk (And.intro h1 h2)
  have hgr := Aside0.mk (show Calls Tryz.prog 99 #[.slice none 0 0, .int .i64 4] w fun e w' => ∃ v, e = .returned v ∧ Kd.R (Kd.int .i64) 3 w' w.heap.size Tt v [] ∧ Below w.heap.size w w' from grow_calls 4 (by omega) (by omega) w)
  clear h1 h2 hg0 hg1
  go_enter Tryz.func68, Tryz.ntmps68
  go_wp2
  go_loopg [3, 11] 2 (fun gg s3 s11 W => ∃ (k : Nat), s11 = .int .i64 k ∧ s3 = .int .i64 (2 * (k : Int)) ∧ k ≤ 2 ∧ Aside0 (2 - k ≤ gg) ∧ w = W)
  case atStart => exact ⟨0, rfl, rfl, by omega, ⟨by omega⟩, rfl⟩
  case round =>
    obtain ⟨k, rfl, rfl, hk, hgk, rfl⟩ := hrel
    rcases Nat.lt_or_ge k 2 with hlt | hge
    · have hltz : (k : Int) < 2 := by omega
      have hk0 : (0 : Int) ≤ (k : Int) := by omega
      obtain ⟨A, c, hck⟩ : ∃ A c, w.cell? ⟨g, k, none⟩ = some (.slice A 2 c) := by
        rcases (show k = 0 ∨ k = 1 by omega) with rfl | rfl
        · exact ⟨_, _, HG.out.1⟩
        · exact ⟨_, _, HG.out.2⟩
      go_wp2
      go_roundg (2 - (k + 1))
      case measure => have := hgk.out; omega
      case rel => exact ⟨k + 1, by go_num, by rw [show (((k + 1 : Nat) : Int)) = (k : Int) + 1 from by omega]; show Value.int .i64 (2 * (k : Int) + 2) = _; congr 1, by omega, ⟨Nat.le_refl _⟩, rfl⟩
    · have hltz : ¬ (k : Int) < 2 := by omega
      obtain rfl : k = 2 := by omega
      go_wp2_with (go_at_call 99; (with_reducible refine hgr.out.mono ?_); rintro e w1 ⟨v1, rfl, hR1, hb1⟩; have HR1 := Aside0.mk hR1; have HB1 := Aside0.mk hb1; clear hR1 hb1)
      go_loopg [6, 27] 2 (fun gg s6 s27 W => ∃ (k : Nat) (l : List Int), s27 = .int .i64 k ∧ k ≤ 2 ∧ Aside0 (2 - k ≤ gg) ∧ Aside0 (l = (if k = 0 then [] else if k = 1 then l1 else l1 ++ l2)) ∧ Aside0 (Kd.R (Kd.int .i64) 3 W w.heap.size Tt s6 l) ∧ Aside0 (Below w.heap.size w W))
      case atStart => exact ⟨0, [], rfl, by omega, ⟨by omega⟩, ⟨rfl⟩, HR1, HB1⟩
      case round =>
        obtain ⟨k, l, rfl, hk, hgk, HL, HR, BW⟩ := hrel
        rcases Nat.lt_or_ge k 2 with hlt | hge
        · have hltz : (k : Int) < 2 := by omega
          have hk0 : (0 : Int) ≤ (k : Int) := by omega
          obtain ⟨A, c, y, hck, hy, hly, hll⟩ : ∃ A c y, wr.cell? ⟨g, k, none⟩ = some (.slice A 2 c) ∧ ReadsInt w .i64 A 2 y ∧ l ++ y = (if k + 1 = 0 then [] else if k + 1 = 1 then l1 else l1 ++ l2) ∧ l.length ≤ 2 := by
            rcases (show k = 0 ∨ k = 1 by omega) with rfl | rfl
            · exact ⟨_, _, l1, (BW.out.cell (p := ⟨g, 0, none⟩) hgl).trans HG.out.1, HRD.out.1, by rw [HL.out]; rfl, by rw [HL.out]; simp⟩
            · exact ⟨_, _, l2, (BW.out.cell (p := ⟨g, 1, none⟩) hgl).trans HG.out.2, HRD.out.2, by rw [HL.out]; rfl, by rw [HL.out]; have := HRD.out.1.1; simp [this]⟩
          have HY := Aside0.mk (show ReadsRow ((Kd.int .i64).K wr) 1 wr A 2 y from Kd.C_of_reads (d := (0 : Int)) (by have := hy.below BW.out; exact this))
          have HLY := Aside0.mk hly
          clear hy hly
          go_wp2_with (at_builtin; refine Kd.R_append_rows (Kd.int .i64) (w0 := w) (Rr := (Kd.int .i64).K wr) w.heap.size rfl (.tmp 31) (.tmp 32) 37 3 (.int .i64 0) 8 rfl Tryz.underlying37 infoInt rfl (by decide) (by omega) u6 l y A 2 c Tt (fun _ => False) rfl rfl HR.out HY.out (fun _ _ h => h) (fun _ hk => hk.elim) (fun _ _ => trivial) BW.out BW.out.size (by omega) ?_; intro v2 w2 hR2 hb2 hg2 hat2; have HR2 := Aside0.mk hR2; have HB2 := Aside0.mk hb2; clear hR2 hb2 hg2 hat2)
          go_roundg (2 - (k + 1))
          case measure => have := hgk.out; omega
          case rel => exact ⟨k + 1, l ++ y, by go_num, by omega, ⟨Nat.le_refl _⟩, HLY, HR2, HB2⟩
        · have hltz : ¬ (k : Int) < 2 := by omega
          obtain rfl : k = 2 := by omega
          go_wp2
          go_ret
          exact ⟨u6, rfl, by have := HR.out; rw [HL.out] at this; exact this, BW.out⟩
end Go.Proofs.YtccnfbjdpgmlhaaGreatDoor

namespace Go.Proofs.YtccnfbjdpgmlhaaGreatDoor
open Go.RowKit Go.Proofs.YtccnfbjdpgmlhaaGreatDoorW.PrintWords Go.Proofs.YtccnfbjdpgmlhaaGreatDoorW.PrintLast Go.Proofs.YtccnfbjdpgmlhaaGreatDoorW.PrintMore
set_option linter.unusedVariables false
set_option linter.unusedSimpArgs false

/-- words with a blank between. -/
def joinL (ws : List ByteArray) : List UInt8 := Lib.join (ws.map (·.data.toList)) [32]
def joinB (ws : List ByteArray) : ByteArray := ⟨(joinL ws).toArray⟩
theorem joinB_size (ws : List ByteArray) : (joinB ws).size = (joinL ws).length := by show (joinL ws).toArray.size = _; simp
theorem lens_le (M : Nat) : ∀ ws : List ByteArray, (∀ x ∈ ws, x.size ≤ M) → Lib.lens (ws.map (·.data.toList)) ≤ ws.length * M := by
  intro ws
  induction ws with
  | nil => intro _; simp [Lib.lens]
  | cons x ws ih =>
    intro h
    have h1 := h x (by simp)
    have h2 := ih (fun y hy => h y (by simp [hy]))
    have e : x.data.toList.length = x.size := Array.length_toList
    simp only [Lib.lens, List.map_cons, List.sum_cons, List.length_cons] at h2 ⊢
    rw [e, Nat.succ_mul]
    omega
theorem joinL_len {M : Nat} {ws : List ByteArray} (h : ∀ x ∈ ws, x.size ≤ M) : (joinL ws).length ≤ ws.length * (M + 1) := by
  cases ws with
  | nil => simp [joinL, Lib.join_nil]
  | cons x ws =>
    unfold joinL
    rw [List.map_cons, Lib.join_length]
    have := lens_le M (x :: ws) h
    rw [List.map_cons] at this
    have e : (x :: ws).length * (M + 1) = (x :: ws).length * M + (x :: ws).length := by rw [Nat.mul_add, Nat.mul_one]
    rw [e]
    simp only [List.length_map, List.length_cons, List.length_nil] at this ⊢
    omega
theorem strs_lit (W : World) (base : Nat) (x : ByteArray) (hb : base ≤ W.heap.size) :
    Kd.R Kd.string 9 (W.alloc (.cells #[.string x] 9)) base Tt (.slice (some ⟨W.heap.size, 0, none⟩) 1 1) [x] := by
  refine ⟨fun _ _ => trivial, ?_⟩
  refine OwnRow.lit W base (inner := [.string x]) (ps := [x]) ⟨rfl, fun j q hj => ?_⟩ hb (by simp)
  obtain rfl : j = 0 := by
    have := (List.getElem?_eq_some_iff.1 hj).1
    simp at this; omega
  obtain rfl : x = q := by simpa using hj
  exact rfl
/-- Join of a row. -/
theorem join_calls (base g cap : Nat) (ws : List ByteArray) (w : World) (h : Kd.R Kd.string 9 w base Tt (.slice (some ⟨g, 0, none⟩) ws.length cap) ws) (h0 : 0 < ws.length) (hl : ws.length ≤ 1000) (hM : ∀ x ∈ ws, x.size ≤ 1048576) :
    Calls Tryz.prog 60 #[.slice (some ⟨g, 0, none⟩) ws.length cap, .string spc] w fun e w' => e = .returned (.string (joinB ws)) ∧ Below w.heap.size w w' := by
  obtain ⟨_, hlc, hC⟩ := Kd.R_reads' h
  have hcell : ∀ (j : Nat) x, ws[j]? = some x → w.cell? ⟨g, 0 + j, none⟩ = some (.string x) := by
    intro j x hj
    obtain ⟨hlt, e⟩ := List.getElem?_eq_some_iff.1 hj
    have h1 := (Kd.R_cell ByteArray.empty h (j : Int) (by omega) (by omega)).1
    rw [Int.toNat_natCast] at h1
    rw [Nat.zero_add, ← e]
    have e2 : ws.getD j ByteArray.empty = ws[j] := by rw [List.getD_eq_getElem?_getD, List.getElem?_eq_getElem hlt]; rfl
    rw [← e2]
    exact h1
  have hgl : g < w.heap.size := World.block_lt_of_cell? w _ (hcell 0 (ws[0]'h0) (List.getElem?_eq_getElem h0))
  have hJ := joinL_len hM
  refine Tryz.strings_Join g 0 cap ws spc w hcell hgl (by omega) hlc ?_
  have : (joinL ws).length ≤ 140737488355328 := Nat.le_trans hJ (Nat.le_trans (Nat.mul_le_mul_right _ hl) (by omega))
  exact this
theorem joinB_spc (ws : List ByteArray) : (⟨(Lib.join (ws.map (·.data.toList)) spc.data.toList).toArray⟩ : ByteArray) = joinB ws := rfl
theorem builder_below {B b : Nat} {bs : List Value} {w w' : World} (h : Lib.IsBuilder 94 5 B b bs w) (hb : Below w.heap.size w w') (hB : B ≤ w.heap.size) : Lib.IsBuilder 94 5 B b bs w' := by
  have key : ∀ p, Lib.BuilderAt 94 5 B b p bs w → Lib.BuilderAt 94 5 B b p bs w' := fun p ⟨h1, v, h2, h3, h4⟩ => ⟨h1, v, blk_keep h2 hb, own_move h3 (fun k hk => hb.block k (own_lt h3 k hk)), h4⟩
  rcases h with h | h
  · exact .inl (key _ h)
  · exact .inr (key _ h)
def TextR (B bb : Nat) (acc : List UInt8) (w : World) (e : Ending) (w' : World) : Prop :=
  e = .returned (.tuple #[]) ∧ Lib.IsBuilder 94 5 B bb (Lib.byteCells acc) w' ∧ Below B w w'
set_option maxHeartbeats 4000000 in
theorem text1_calls (B bb base : Nat) (acc : List UInt8) (word : ByteArray) (v : Value) (ws : List ByteArray) (w : World) (hBu : Lib.IsBuilder 94 5 B bb (Lib.byteCells acc) w) (hr : Kd.R Kd.string 9 w base Tt v ws)
    (hB : B ≤ w.heap.size) (hl : ws.length ≤ 100) (hM : ∀ x ∈ ws, x.size ≤ 1000) (hw : word.size ≤ 1000) (ha : acc.length ≤ 10000000) :
    Calls Tryz.prog 65 #[.string word, v, .pointer (some ⟨bb, 0, none⟩)] w (TextR B bb (acc ++ joinL (word :: ws) ++ [10]) w) := by
  obtain ⟨A, c, rfl, hlc, hC⟩ := Kd.R_reads hr
  have hb1 := Aside0.mk (show Below w.heap.size w (w.alloc (.cells #[.string word] 9)) from below_alloc (Below.refl _ _) _)
  have HL := Aside0.mk (strs_lit w w.heap.size word (Nat.le_refl _))
  have HY := Aside0.mk (show ReadsRow (Kd.string.K (w.alloc (.cells #[.string word] 9))) 1 (w.alloc (.cells #[.string word] 9)) A ws.length ws from Kd.C_below hC hb1.out)
  have HBu := Aside0.mk hBu
  have hM2 : ∀ x ∈ word :: ws, x.size ≤ 1000 := fun x hx => by
    rcases List.mem_cons.mp hx with rfl | h
    · exact hw
    · exact hM x h
  have HM := Aside0.mk hM2
  have hjl := joinL_len hM2
  have hjs : (joinB (word :: ws)).size ≤ 200000 := by
    rw [joinB_size]
    have e : (word :: ws).length = ws.length + 1 := rfl
    rw [e] at hjl
    have := Nat.mul_le_mul_right (1000 + 1) (show ws.length + 1 ≤ 101 by omega)
    omega
  have HJD := Aside0.mk (show (joinB (word :: ws)).data.toList = joinL (word :: ws) from rfl)
  have HLN := Aside0.mk (show ([word] ++ ws).length = ws.length + 1 by simp)
  have hJ0 : joinB ([word] ++ ws) = joinB (word :: ws) := rfl
  have hjoin := @join_calls
  rw [show (word :: ws) = [word] ++ ws from rfl] at hjs HJD
  obtain ⟨J, hJ⟩ : ∃ J, joinB ([word] ++ ws) = J := ⟨_, rfl⟩
  rw [hJ] at hjs HJD
  have HJ := Aside0.mk hJ
  clear hr hC hBu hM hM2 hjl hJ hJ0 hjoin
  go_enter Tryz.func65, Tryz.ntmps65
  go_wp2_with (first
    | (at_builtin; refine Kd.R_append_rows Kd.string (w0 := w) (Rr := Kd.string.K (w.alloc (.cells #[.string word] 9))) w.heap.size rfl (.tmp 6) (.tmp 7) 35 9 (.string ByteArray.empty) 16 rfl Tryz.underlying35 infoStr rfl (by decide) (by omega) (.slice (some ⟨w.heap.size, 0, none⟩) 1 1) [word] ws A ws.length c Tt (fun _ => False) rfl rfl HL.out HY.out (fun _ _ h => h) (fun _ hk => hk.elim) (fun _ _ => trivial) hb1.out hb1.out.size (by simp; omega) ?_; intro v1 w1 hR1 hb1' hg1 hat1; obtain ⟨g1, cap1, rfl, hgg1, hgl1, _⟩ := Kd.R_form hR1 (by simp); have HR1 := Aside0.mk hR1; have HB1 := Aside0.mk hb1'; have hjc0 := join_calls w.heap.size g1 cap1 ([word] ++ ws) w1 hR1 (by simp) (by simp; omega) (fun x hx => Nat.le_trans (HM.out x hx) (by omega)); rw [HLN.out, HJ.out] at hjc0; have hjc := Aside0.mk hjc0; clear hR1 hb1' hg1 hat1 hjc0)
    | (go_at_call 60; (with_reducible refine hjc.out.mono ?_); rintro e w2 ⟨rfl, hb2⟩; have HB2 := Aside0.mk (HB1.out.trans (hb2.mono HB1.out.size)); have hws := Aside0.mk (writeString_calls B bb (Lib.byteCells acc) (J ++ ⟨#[10]⟩) w2 (builder_below HBu.out HB2.out hB) (by rw [Lib.byteCells_length]; have : (J ++ (⟨#[10]⟩ : ByteArray)).size = J.size + 1 := ByteArray.size_append; omega) (Nat.le_trans hB HB2.out.size)); clear hb2)
    | (go_at_call 63; (with_reducible refine hws.out.mono ?_); rintro e w3 ⟨rfl, ⟨hB3, hb3⟩, hbb3⟩; have HB3 := Aside0.mk hB3; have HB4 := Aside0.mk ((HB2.out.mono hB).trans hb3); clear hB3 hb3 hbb3))
  go_end0
  refine ⟨rfl, ?_, HB4.out⟩
  have h3 := HB3.out
  rw [Lib.strCells_eq, show (J ++ (⟨#[10]⟩ : ByteArray)).data.toList = J.data.toList ++ [10] from by rw [ByteArray.data_append, Array.toList_append], HJD.out, ← Lib.byteCells_append, ← List.append_assoc] at h3
  exact .inr h3
end Go.Proofs.YtccnfbjdpgmlhaaGreatDoor
