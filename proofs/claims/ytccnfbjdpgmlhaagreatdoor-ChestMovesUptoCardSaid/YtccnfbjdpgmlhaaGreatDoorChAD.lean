/- Walks of the chest: text, State. -/
import Derived.Test.YtccnfbjdpgmlhaaGreatDoorChAC
import Derived.Deep.RegionHeld3
import Derived.Lib.ItoaLen
namespace Go.Proofs.YtccnfbjdpgmlhaaGreatDoor
open Go.RowKit Go.Proofs.YtccnfbjdpgmlhaaGreatDoorW.PrintWords Go.Proofs.YtccnfbjdpgmlhaaGreatDoorW.PrintLast Go.Proofs.YtccnfbjdpgmlhaaGreatDoorW.PrintMore
set_option linter.unusedVariables false
set_option linter.unusedSimpArgs false

def leafT (x : Leaf) : List UInt8 := [108, 101, 97, 102, 32] ++ x.name.data.toList ++ [32] ++ Lib.itoa x.stock ++ [10]
def leavesT (l : List Leaf) : List UInt8 := (l.map leafT).flatten
def offB2 (p : Off) : ByteArray := itoaB p.x ++ ⟨#[44]⟩ ++ itoaB p.y
abbrev ordersW : ByteArray := ⟨#[111, 114, 100, 101, 114, 115]⟩
abbrev tastesW : ByteArray := ⟨#[116, 97, 115, 116, 101, 115]⟩
abbrev offersW : ByteArray := ⟨#[111, 102, 102, 101, 114, 115]⟩
/-- a state as a text. -/
def textF (s : St) : List UInt8 :=
  leavesT s.leaves ++ joinL (ordersW :: namesF s s.orders) ++ [10] ++ joinL (tastesW :: numbersF ([s.t0, s.t1] ++ [s.t2, s.t3])) ++ [10] ++ joinL (offersW :: s.offers.map offB2) ++ [10]
theorem leavesT_snoc (l : List Leaf) (x : Leaf) : leavesT (l ++ [x]) = leavesT l ++ leafT x := by simp [leavesT]
theorem itoa_len {n : Int} (h0 : -9223372036854775808 ≤ n) (h1 : n ≤ 9223372036854775807) : (itoaB n).size ≤ 21 := by
  have := Lib.itoa_length_le n h0 h1
  show (Lib.itoa n).toArray.size ≤ 21
  simpa using this
theorem nameOk_size {x : ByteArray} (h : nameOk x = true) : x.size ≤ 8 := by
  unfold nameOk at h
  exact of_decide_eq_true (Bool.and_eq_true_iff.mp (Bool.and_eq_true_iff.mp h).2).2
theorem leafT_len {x : Leaf} (hn : x.name.size ≤ 8) (h0 : 0 ≤ x.stock) (h1 : x.stock ≤ 20) : (leafT x).length ≤ 40 := by
  have e : x.name.data.toList.length = x.name.size := Array.length_toList
  have h2 := Lib.itoa_length_le x.stock (by omega) (by omega)
  simp only [leafT, List.length_append, List.length_cons, List.length_nil, e]
  omega
theorem leavesT_len {l : List Leaf} (h : ∀ x ∈ l, (leafT x).length ≤ 40) : (leavesT l).length ≤ l.length * 40 := by
  induction l with
  | nil => simp [leavesT]
  | cons x l ih =>
    have h1 := h x (by simp)
    have h2 := ih (fun y hy => h y (by simp [hy]))
    have e : leavesT (x :: l) = leafT x ++ leavesT l := by simp [leavesT]
    rw [e, List.length_append, List.length_cons, Nat.succ_mul]
    omega
theorem builder_blk {B b : Nat} {bs : List Value} {w : World} (h : Lib.IsBuilder 94 5 B b bs w) : w.heap[b]? = some (w.heap[b]?.getD (.cells #[] 0 (0, 0))) := by
  rcases h with ⟨_, v, h2, _⟩ | ⟨_, v, h2, _⟩ <;> rw [h2] <;> rfl
set_option maxRecDepth 100000 in
set_option maxHeartbeats 4000000 in
theorem text_calls (n b base : Nat) (s : St) (w : World) (hE : Env n w) (hnw : n ≤ w.heap.size) (h : StAt w base b s) (hG : Good s) :
    Calls Tryz.prog 36 #[.pointer (some ⟨b, 0, none⟩)] w fun e w' => e = .returned (.string ⟨(textF s).toArray⟩) ∧ Below w.heap.size w w' := by
  obtain ⟨v1, v2, v3, hb, hbase, h1, h2, h3⟩ := h.parts
  have c0 := blk_cell hb 0
  have c1 := blk_cell hb 1
  have c6 := blk_cell hb 6
  simp only [List.getElem?_toArray, List.getElem?_cons_zero, List.getElem?_cons_succ] at c0 c1 c6
  have hbl := blk_lt hb
  obtain ⟨A1, k1, rfl, hc1, hC1⟩ := Kd.R_reads h1
  obtain ⟨A2, k2, rfl, hc2, hC2⟩ := Kd.R_reads h2
  obtain ⟨A3, k3, rfl, hc3, hC3⟩ := Kd.R_reads h3
  have HC1 := Aside0.mk hC1
  have HC2 := Aside0.mk hC2
  have HC3 := Aside0.mk hC3
  have X0 := Aside0.mk (And.intro c0 (And.intro c1 c6))
  have HA := Aside0.mk (And.intro h (And.intro hG hE))
  have HBK := Aside0.mk hb
  have hB1 := Aside0.mk (show Below w.heap.size w (w.alloc (.cells #[.pointer none, .slice none 0 0] 94)) from below_alloc (Below.refl _ _) _)
  have hBu := Aside0.mk (show Lib.IsBuilder 94 5 w.heap.size w.heap.size (Lib.byteCells (leavesT (s.leaves.take 0))) (w.alloc (.cells #[.pointer none, .slice none 0 0] 94)) from
    .inl ⟨Nat.le_refl _, _, blk_new _ _, World.ownsRow_nil _ _ _ _, by simp [Value.ownBlock]⟩)
  have k0 := (hB1.out.cell (p := ⟨b, 0, none⟩) hbl).trans c0
  have hl6 := hG.sized.leaves
  have hl40 := hG.sized.orders
  have hl8 := hG.sized.offers
  clear h hb h1 h2 h3 hC1 hC2 hC3 c0 c1 c6 hE hG hbase
  go_enter Tryz.func36, Tryz.ntmps36
  go_wp2
  go_loopg [15] s.leaves.length (fun gg s15 W => ∃ (k : Nat), s15 = .int .i64 k ∧ k ≤ s.leaves.length ∧ Aside0 (s.leaves.length - k ≤ gg) ∧ Aside0 (Lib.IsBuilder 94 5 w.heap.size w.heap.size (Lib.byteCells (leavesT (s.leaves.take k))) W) ∧ Aside0 (Below w.heap.size w W))
  case atStart => exact ⟨0, rfl, Nat.zero_le _, ⟨by omega⟩, hBu, hB1⟩
  case round =>
    obtain ⟨k, rfl, hk, hgk, HB, BW⟩ := hrel
    rcases Nat.lt_or_ge k s.leaves.length with hlt | hge
    · have hltz : (k : Int) < (s.leaves.length : Int) := by omega
      have hkz : (0 : Int) ≤ (k : Int) := by omega
      obtain ⟨ad, rfl, hx0, hx1⟩ := at_leaf HC1.out (k : Int) (by omega) (by omega)
      rw [Int.toNat_natCast] at hx0 hx1
      replace hx0 := (BW.out.cell (World.block_lt_of_cell? w _ hx0)).trans hx0
      replace hx1 := (BW.out.cell (World.block_lt_of_cell? w _ hx1)).trans hx1
      have hnm := nameOk_size (HA.out.2.1.names _ (getD_mem (z := default) hlt))
      have hst := HA.out.2.1.nums k hlt
      have ET := Aside0.mk (show leavesT (s.leaves.take (k + 1)) = leavesT (s.leaves.take k) ++ leafT (s.leaves.getD k default) by rw [take_snoc s.leaves default k hlt, leavesT_snoc])
      have hstk : (s.leaves.getD k default).stock = stock s k := rfl
      rw [hstk] at hx1
      have hlf : leafT (s.leaves.getD k default) = [108, 101, 97, 102, 32] ++ (s.leaves.getD k default).name.data.toList ++ [32] ++ Lib.itoa (stock s k) ++ [10] := rfl
      rw [hlf] at ET
      clear hlf hstk
      generalize (s.leaves.getD k default).name = nm at hx0 hnm ET
      generalize stock s k = q at hx1 hst ET
      have hit := Aside0.mk (fun (W : World) (hW : Below w.heap.size w W) => itoa_calls n q W (HA.out.2.2.below hW hnw) (by omega) (by omega))
      have hil := itoa_len (n := q) (by omega) (by omega)
      have HID := Aside0.mk (show (itoaB q).data.toList = Lib.itoa q from rfl)
      generalize itoaB q = iq at hit hil HID
      go_wp2_with (fail)
      have hbx := Aside0.mk (blk_new wr (.cells #[.string nm, .int .i64 q] 96))
      have BW1 := Aside0.mk (below_alloc BW.out (.cells #[.string nm, .int .i64 q] 96))
      have HB1 := Aside0.mk (builder_below HB.out (below_alloc (Below.refl _ _) (.cells #[.string nm, .int .i64 q] 96)) BW.out.size)
      have hgn : wr.heap.size ≠ w.heap.size := by have := BW.out.size; have := blk_lt (builder_blk HB.out); omega
      have hln : (leavesT (s.leaves.take k)).length ≤ 1000 := by
        have h1 := leavesT_len (l := s.leaves.take k) (fun x hx => by
          have hm := List.mem_of_mem_take hx
          obtain ⟨i, hi, rfl⟩ := List.getElem_of_mem hm
          have hq := HA.out.2.1.nums i hi
          have e : s.leaves[i] = s.leaves.getD i default := by rw [List.getD_eq_getElem?_getD, List.getElem?_eq_getElem hi]; rfl
          unfold stock at hq
          rw [← e] at hq
          exact leafT_len (nameOk_size (HA.out.2.1.names _ hm)) hq.1 hq.2)
        have h2 : (s.leaves.take k).length ≤ 6 := by rw [List.length_take]; have := HA.out.2.1.sized.leaves; omega
        omega
      have HLN := Aside0.mk hln
      clear hln
      generalize hg : wr.heap.size = g at hbx hgn
      have HGN := Aside0.mk hgn
      clear hgn
      generalize wr.alloc (.cells #[.string nm, .int .i64 q] 96) = w1 at hbx BW1 HB1
      have m0 := (blk_cell hbx.out 0).trans rfl
      have m1 := (blk_cell hbx.out 1).trans rfl
      have z1 : (⟨#[108, 101, 97, 102, 32]⟩ : ByteArray).size = 5 := by decide
      have z2 : (⟨#[32]⟩ : ByteArray).size = 1 := by decide
      have z3 : (⟨#[10]⟩ : ByteArray).size = 1 := by decide
      have S1 := Aside0.mk (show (((⟨#[108, 101, 97, 102, 32]⟩ ++ nm ++ ⟨#[32]⟩ ++ iq ++ ⟨#[10]⟩) : ByteArray).size ≤ 100) from by simp only [ByteArray.size_append]; omega)
      have hs1 := fun W => run_string_add_sum (P := Tryz.prog) W ⟨#[108, 101, 97, 102, 32]⟩ nm (by omega)
      have hs2 := fun W => run_string_add_sum (P := Tryz.prog) W (⟨#[108, 101, 97, 102, 32]⟩ ++ nm) ⟨#[32]⟩ (by simp only [ByteArray.size_append]; omega)
      have hs3 := fun W => run_string_add_sum (P := Tryz.prog) W (⟨#[108, 101, 97, 102, 32]⟩ ++ nm ++ ⟨#[32]⟩) iq (by simp only [ByteArray.size_append]; omega)
      have hs4 := fun W => run_string_add_sum (P := Tryz.prog) W (⟨#[108, 101, 97, 102, 32]⟩ ++ nm ++ ⟨#[32]⟩ ++ iq) ⟨#[10]⟩ (by simp only [ByteArray.size_append]; omega)
      have hwr := Aside0.mk (fun (W : World) (hB : Lib.IsBuilder 94 5 w.heap.size w.heap.size (Lib.byteCells (leavesT (s.leaves.take k))) W) (hz : w.heap.size ≤ W.heap.size) => writeString_calls w.heap.size w.heap.size (Lib.byteCells (leavesT (s.leaves.take k))) (⟨#[108, 101, 97, 102, 32]⟩ ++ nm ++ ⟨#[32]⟩ ++ iq ++ ⟨#[10]⟩) W hB (by have := S1.out; have := HLN.out; rw [Lib.byteCells_length]; omega) hz)
      clear z1 z2 z3
      go_region_held3 (fun W => W.cell? ⟨g, 0, none⟩ = some (.string nm) ∧ W.cell? ⟨g, 1, none⟩ = some (.int .i64 q))
        (first | exact ⟨m0, m1⟩ | exact ⟨(blk_cell hbx2.out 0).trans rfl, (blk_cell hbx2.out 1).trans rfl⟩ | exact ⟨(blk_cell hbx3.out 0).trans rfl, (blk_cell hbx3.out 1).trans rfl⟩)
        (first
        | (go_at_call 64; (with_reducible refine (hit.out _ (below_drew BW1.out)).mono ?_); rintro e w2 ⟨rfl, hb2⟩; have hbx2 := Aside0.mk (blk_below (blk_drew hbx.out) hb2); have BW2 := Aside0.mk ((below_drew BW1.out).trans (hb2.mono BW1.out.size)); have HB2 := Aside0.mk (builder_below HB1.out ((below_drew (Below.refl w1.heap.size w1)).trans hb2) BW1.out.size); clear hb2)
        | (go_at_call 63; (with_reducible refine (hwr.out w2 HB2.out BW2.out.size).mono ?_); rintro e w3 ⟨rfl, ⟨hb3, hb4⟩, hbb⟩; have HB3 := Aside0.mk hb3; have BW3 := Aside0.mk (BW2.out.trans hb4); have hbx3 := Aside0.mk (hbb g _ _ hbx2.out (by decide) HGN.out); clear hb3 hb4 hbb))
      go_wp2
      go_roundg (s.leaves.length - (k + 1))
      case measure => have := hgk.out; omega
      case rel =>
        refine ⟨k + 1, by go_num, by omega, ⟨Nat.le_refl _⟩, ⟨.inr ?_⟩, BW3⟩
        have h3 := HB3.out
        rw [Lib.strCells_eq, ← Lib.byteCells_append] at h3
        rw [ET.out]
        have e : (⟨#[108, 101, 97, 102, 32]⟩ ++ nm ++ ⟨#[32]⟩ ++ iq ++ ⟨#[10]⟩ : ByteArray).data.toList = [108, 101, 97, 102, 32] ++ nm.data.toList ++ [32] ++ Lib.itoa q ++ [10] := by
          simp only [ByteArray.data_append, Array.toList_append, HID.out]
        rw [e] at h3
        exact h3
    · have hltz : ¬ (k : Int) < (s.leaves.length : Int) := by omega
      have etk : leavesT (s.leaves.take k) = leavesT s.leaves := by rw [List.take_of_length_le hge]
      rw [etk] at HB
      have hlt0 : (leavesT s.leaves).length ≤ 240 := by
        have h1 := leavesT_len (l := s.leaves) (fun x hx => by
          obtain ⟨i, hi, rfl⟩ := List.getElem_of_mem hx
          have hq := HA.out.2.1.nums i hi
          have e : s.leaves[i] = s.leaves.getD i default := by rw [List.getD_eq_getElem?_getD, List.getElem?_eq_getElem hi]; rfl
          unfold stock at hq
          rw [← e] at hq
          exact leafT_len (nameOk_size (HA.out.2.1.names _ hx)) hq.1 hq.2)
        have := HA.out.2.1.sized.leaves
        omega
      have HLT := Aside0.mk hlt0
      have hnc := Aside0.mk (names_calls b base s A2 k2 s.orders wr (HA.out.1.below BW.out) (readsInt_of.mpr (Kd.reads_of_C (d := (0 : Int)) (Kd.C_below HC2.out BW.out))) HA.out.2.1.orders (by have := HA.out.2.1.sized.orders; omega))
      unfold StrsR at hnc
      have hx1 := (BW.out.cell (p := ⟨b, 1, none⟩) hbl).trans X0.out.2.1
      have ht1 := Aside0.mk (fun (v : Value) (W : World) (hb : Below wr.heap.size wr W) (hR : Kd.R Kd.string 9 W wr.heap.size Tt v (namesF s s.orders)) => text1_calls w.heap.size w.heap.size wr.heap.size (leavesT s.leaves) ordersW v (namesF s s.orders) W (builder_below HB.out hb BW.out.size) hR (Nat.le_trans BW.out.size hb.size)
        (by rw [namesF_length]; have := HA.out.2.1.sized.orders; omega) (fun x hx => by
          obtain ⟨o, ho, rfl⟩ := List.mem_map.mp hx
          have h1 := HA.out.2.1.orders o ho
          have := nameOk_size (HA.out.2.1.names _ (getD_mem (l := s.leaves) (z := default) (j := o.toNat) (by omega)))
          show (s.leaves.getD o.toNat default).name.size ≤ 1000
          omega) (by decide) (by have := HLT.out; omega))
      unfold TextR at ht1
      clear hlt0 etk hge hk
      have KT := Aside0.mk (And.intro (blk_cell HBK.out 2) (And.intro (blk_cell HBK.out 3) (And.intro (blk_cell HBK.out 4) (blk_cell HBK.out 5))))
      go_wp2_with (first
        | (go_at_call 66; (with_reducible refine hnc.out.mono ?_); rintro e w2 ⟨v2, rfl, hR2, hb2⟩; obtain ⟨A4, k4, rfl⟩ := Kd.R_slice hR2; rw [namesF_length]; have HR2 := Aside0.mk hR2; have HB2 := Aside0.mk hb2; clear hR2 hb2)
        | (go_at_call 65; (with_reducible refine (ht1.out _ _ HB2.out (by have h := HR2.out; rw [namesF_length] at h; exact h)).mono ?_); rintro e w3 ⟨rfl, hB3, hb3⟩; have HB3 := Aside0.mk hB3; have BW3 := Aside0.mk ((BW.out.trans (HB2.out.mono BW.out.size)).trans hb3); clear hB3 hb3))
      have HA2 := Aside0.mk (show ((leavesT s.leaves ++ joinL (ordersW :: namesF s s.orders)) ++ [10]).length ≤ 20000 from by
        have h1 := joinL_len (M := 8) (ws := ordersW :: namesF s s.orders) (fun x hx => by
          rcases List.mem_cons.mp hx with rfl | h
          · decide
          · obtain ⟨o, ho, rfl⟩ := List.mem_map.mp h
            have h1 := HA.out.2.1.orders o ho
            exact nameOk_size (HA.out.2.1.names _ (getD_mem (l := s.leaves) (z := default) (j := o.toNat) (by omega))))
        have h2 := HLT.out
        have h3 : (ordersW :: namesF s s.orders).length = s.orders.length + 1 := by rw [List.length_cons, namesF_length]
        rw [h3] at h1
        rw [List.length_append, List.length_append, List.length_singleton]
        omega)
      generalize hac : (leavesT s.leaves ++ joinL (ordersW :: namesF s s.orders)) ++ [10] = acc2 at HB3 HA2
      have HAC := Aside0.mk hac
      clear hac HR2 HB2 hx1
      have hc2 := (BW3.out.cell (p := ⟨b, 2, none⟩) hbl).trans KT.out.1
      have hc3 := (BW3.out.cell (p := ⟨b, 3, none⟩) hbl).trans KT.out.2.1
      have hc4 := (BW3.out.cell (p := ⟨b, 4, none⟩) hbl).trans KT.out.2.2.1
      have hc5 := (BW3.out.cell (p := ⟨b, 5, none⟩) hbl).trans KT.out.2.2.2
      simp only [List.getElem?_toArray, List.getElem?_cons_zero, List.getElem?_cons_succ] at hc2 hc3 hc4 hc5
      have hcc := Aside0.mk (fun (W : World) (g : Nat) (hW : Below w3.heap.size w3 W) (hg0 : W.cell? ⟨g, 0, none⟩ = some (.slice (some ⟨b, 2, none⟩) 2 2)) (hg1 : W.cell? ⟨g, 1, none⟩ = some (.slice (some ⟨b, 4, none⟩) 2 2)) =>
        concat_calls g 2 (some ⟨b, 2, none⟩) (some ⟨b, 4, none⟩) 2 2 [s.t0, s.t1] [s.t2, s.t3] W
          ⟨rfl, by omega, fun _ => ⟨_, rfl, fun j hj => by
            rcases (show j = 0 ∨ j = 1 by omega) with rfl | rfl
            · exact (hW.cell (World.block_lt_of_cell? w3 _ hc2)).trans hc2
            · exact (hW.cell (p := ⟨b, 3, none⟩) (World.block_lt_of_cell? w3 _ hc3)).trans hc3⟩⟩
          ⟨rfl, by omega, fun _ => ⟨_, rfl, fun j hj => by
            rcases (show j = 0 ∨ j = 1 by omega) with rfl | rfl
            · exact (hW.cell (World.block_lt_of_cell? w3 _ hc4)).trans hc4
            · exact (hW.cell (p := ⟨b, 5, none⟩) (World.block_lt_of_cell? w3 _ hc5)).trans hc5⟩⟩ hg0 hg1)
      have HTT := HA.out.2.1.tastes
      have hnb := Aside0.mk (fun (A : Option Addr) (c : Nat) (W : World) (hW : Below w.heap.size w W) (hR : ReadsInt W .i64 A 4 ([s.t0, s.t1] ++ [s.t2, s.t3])) => show Calls Tryz.prog 67 #[.slice A 4 c] W (StrsR W.heap.size (numbersF ([s.t0, s.t1] ++ [s.t2, s.t3])) W) from numbers_calls n A c ([s.t0, s.t1] ++ [s.t2, s.t3]) W (HA.out.2.2.below hW hnw) (Nat.le_trans hnw hW.size) hR (fun x hx => by
        have := HTT.p0; have := HTT.p1; have := HTT.p2; have := HTT.p3; have hm := HTT.most; unfold sumT at hm
        simp only [List.cons_append, List.nil_append, List.mem_cons, List.not_mem_nil, or_false] at hx
        rcases hx with rfl | rfl | rfl | rfl <;> omega) (by simp))
      unfold StrsR at hnb
      have HNL := Aside0.mk (show ∀ x ∈ numbersF ([s.t0, s.t1] ++ [s.t2, s.t3]), x.size ≤ 21 from fun x hx => by
        have := HTT.p0; have := HTT.p1; have := HTT.p2; have := HTT.p3; have hm := HTT.most; unfold sumT at hm
        obtain ⟨y, hy, rfl⟩ := List.mem_map.mp hx
        simp only [List.cons_append, List.nil_append, List.mem_cons, List.not_mem_nil, or_false] at hy
        rcases hy with rfl | rfl | rfl | rfl <;> exact itoa_len (by omega) (by omega))
      have ht2 := Aside0.mk (fun (base : Nat) (v : Value) (W : World) (hb : Below w3.heap.size w3 W) (hR : Kd.R Kd.string 9 W base Tt v (numbersF ([s.t0, s.t1] ++ [s.t2, s.t3]))) => text1_calls w.heap.size w.heap.size base acc2 tastesW v (numbersF ([s.t0, s.t1] ++ [s.t2, s.t3])) W (builder_below HB3.out hb BW3.out.size) hR (Nat.le_trans BW3.out.size hb.size)
        (by rw [numbersF_length]; simp) (fun x hx => Nat.le_trans (HNL.out x hx) (by omega)) (by decide) (by have := HA2.out; omega))
      unfold TextR at ht2
      clear HTT hc2 hc3 hc4 hc5
      go_region_held3 (fun W => True) (first | exact trivial)
        (first
        | (go_at_call 68; (with_reducible refine (hcc.out (w3.alloc (.cells #[.slice (some ⟨b, 2, none⟩) 2 2, .slice (some ⟨b, 4, none⟩) 2 2] 37)).drew w3.heap.size (below_drew (below_alloc (Below.refl _ _) _)) (by simp) (by simp)).mono ?_); rintro e w4 ⟨v4, rfl, hR4, hb4⟩; obtain ⟨A4, c4, hv4⟩ := Kd.R_slice hR4; have hv4' : v4 = .slice A4 4 c4 := hv4; subst hv4'; have HR4 := Aside0.mk (show ReadsInt w4 .i64 A4 4 ([s.t0, s.t1] ++ [s.t2, s.t3]) from readsInt_of.mpr (Kd.reads_of_C (d := (0 : Int)) (Kd.R_reads' hR4).2.2)); have HB4 := Aside0.mk ((below_drew (below_alloc (Below.refl w3.heap.size w3) (.cells #[.slice (some ⟨b, 2, none⟩) 2 2, .slice (some ⟨b, 4, none⟩) 2 2] 37))).trans (hb4.mono (by simp))); clear hR4 hb4 hv4)
        | (go_at_call 67; (with_reducible refine (hnb.out A4 c4 w4 (BW3.out.trans (HB4.out.mono BW3.out.size)) HR4.out).mono ?_); rintro e w5 ⟨v5, rfl, hR5, hb5⟩; obtain ⟨A5, c5, hv5⟩ := Kd.R_slice hR5; have hv5' : v5 = .slice A5 4 c5 := hv5; subst hv5'; have HR5 := Aside0.mk hR5; have HB5 := Aside0.mk (HB4.out.trans (hb5.mono HB4.out.size)); clear hR5 hb5 hv5)
        | (go_at_call 65; (with_reducible refine (ht2.out _ _ w5 HB5.out HR5.out).mono ?_); rintro e w6 ⟨rfl, hB6, hb6⟩; have HB6 := Aside0.mk hB6; have BW6 := Aside0.mk ((BW3.out.trans (HB5.out.mono BW3.out.size)).trans hb6); clear hB6 hb6))
      have HA3 := Aside0.mk (show (acc2 ++ joinL (tastesW :: numbersF ([s.t0, s.t1] ++ [s.t2, s.t3])) ++ [10]).length ≤ 30000 from by
        have h1 := joinL_len (M := 21) (ws := tastesW :: numbersF ([s.t0, s.t1] ++ [s.t2, s.t3])) (fun x hx => by
          rcases List.mem_cons.mp hx with rfl | h
          · decide
          · exact HNL.out x h)
        have h2 := HA2.out
        have h3 : (tastesW :: numbersF ([s.t0, s.t1] ++ [s.t2, s.t3])).length = 5 := by rw [List.length_cons, numbersF_length]; rfl
        rw [h3] at h1
        rw [List.length_append, List.length_append, List.length_singleton]
        omega)
      generalize hac3 : acc2 ++ joinL (tastesW :: numbersF ([s.t0, s.t1] ++ [s.t2, s.t3])) ++ [10] = acc3 at HB6 HA3
      have HAC3 := Aside0.mk hac3
      clear hac3
      have hy6 := (BW6.out.cell (p := ⟨b, 6, none⟩) hbl).trans X0.out.2.2
      go_wp2
      go_loopg [7, 59] s.offers.length (fun gg s7 s59 W => ∃ (k : Nat), s59 = .int .i64 k ∧ k ≤ s.offers.length ∧ Aside0 (s.offers.length - k ≤ gg) ∧ Aside0 (Kd.R Kd.string 9 W w6.heap.size Tt s7 ((s.offers.map offB2).take k)) ∧ Aside0 (Below w6.heap.size w6 W))
      case atStart => exact ⟨0, rfl, Nat.zero_le _, ⟨by omega⟩, ⟨Kd.R_nil _ _ _ _ _⟩, ⟨Below.refl _ _⟩⟩
      case round =>
        obtain ⟨wo, rfl⟩ : ∃ wo : World, wo = wr := ⟨_, rfl⟩
        obtain ⟨k2, rfl, hk2, hgk2, HR, BO⟩ := hrel
        rcases Nat.lt_or_ge k2 s.offers.length with hlt2 | hge2
        · have hltz2 : (k2 : Int) < (s.offers.length : Int) := by omega
          have hkz2 : (0 : Int) ≤ (k2 : Int) := by omega
          obtain ⟨ad, rfl, hx0, hx1⟩ := at_off HC3.out (k2 : Int) (by omega) (by omega)
          rw [Int.toNat_natCast] at hx0 hx1
          have BWO := BW6.out.trans (BO.out.mono BW6.out.size)
          replace hx0 := (BWO.cell (World.block_lt_of_cell? w _ hx0)).trans hx0
          replace hx1 := (BWO.cell (World.block_lt_of_cell? w _ hx1)).trans hx1
          have hof := HA.out.2.1.offers _ (getD_mem (z := default) hlt2)
          have ET := Aside0.mk (take_snoc (s.offers.map offB2) ByteArray.empty k2 (by rw [List.length_map]; exact hlt2))
          have eK : (s.offers.map offB2).getD k2 ByteArray.empty = itoaB (s.offers.getD k2 default).x ++ ⟨#[44]⟩ ++ itoaB (s.offers.getD k2 default).y := by
            rw [List.getD_eq_getElem?_getD, List.getD_eq_getElem?_getD, List.getElem?_map, List.getElem?_eq_getElem hlt2]; rfl
          rw [eK] at ET
          clear eK
          generalize (s.offers.getD k2 default).x = px at hx0 hof ET
          generalize (s.offers.getD k2 default).y = py at hx1 hof ET
          have hi1 := Aside0.mk (fun (W : World) (hW : Below w.heap.size w W) => itoa_calls n px W (HA.out.2.2.below hW hnw) (by omega) (by omega))
          have hi2 := Aside0.mk (fun (W : World) (hW : Below w.heap.size w W) => itoa_calls n py W (HA.out.2.2.below hW hnw) (by omega) (by omega))
          have hz1 := itoa_len (n := px) (by omega) (by omega)
          have hz2 := itoa_len (n := py) (by omega) (by omega)
          generalize itoaB px = ix at hi1 hz1 ET
          generalize itoaB py = iy at hi2 hz2 ET
          have z1 : (⟨#[44]⟩ : ByteArray).size = 1 := by decide
          have hs1 := fun W => run_string_add_sum (P := Tryz.prog) W ix ⟨#[44]⟩ (by omega)
          have hs2 := fun W => run_string_add_sum (P := Tryz.prog) W (ix ++ ⟨#[44]⟩) iy (by simp only [ByteArray.size_append]; omega)
          have BWO2 := Aside0.mk BWO
          clear z1 BWO
          go_wp2_with (fail)
          have hbx := Aside0.mk (blk_new wo (.cells #[.int .i64 px, .int .i64 py] 72))
          have B1 := Aside0.mk (below_alloc (Below.refl wo.heap.size wo) (.cells #[.int .i64 px, .int .i64 py] 72))
          generalize hg : wo.heap.size = g at hbx
          generalize wo.alloc (.cells #[.int .i64 px, .int .i64 py] 72) = w7 at hbx B1
          rw [← hg] at hbx
          rw [hg] at hbx
          have m0 := (blk_cell hbx.out 0).trans rfl
          have m1 := (blk_cell hbx.out 1).trans rfl
          go_region_held3 (fun W => W.cell? ⟨g, 0, none⟩ = some (.int .i64 px) ∧ W.cell? ⟨g, 1, none⟩ = some (.int .i64 py))
            (first | exact ⟨m0, m1⟩ | exact ⟨(blk_cell hbx8.out 0).trans rfl, (blk_cell hbx8.out 1).trans rfl⟩ | exact ⟨(blk_cell hbx9.out 0).trans rfl, (blk_cell hbx9.out 1).trans rfl⟩ | exact ⟨(blk_cell hbx10.out 0).trans rfl, (blk_cell hbx10.out 1).trans rfl⟩ | exact ⟨(blk_cell (blk_alloc hbx9.out _) 0).trans rfl, (blk_cell (blk_alloc hbx9.out _) 1).trans rfl⟩)
            (first
            | (go_at_call 64; (with_reducible refine (hi1.out _ (BWO2.out.trans ((below_drew B1.out).mono BWO2.out.size))).mono ?_); rintro e w8 ⟨rfl, hb8⟩; have hbx8 := Aside0.mk (blk_below (blk_drew hbx.out) hb8); have B8 := Aside0.mk ((below_drew B1.out).trans (hb8.mono B1.out.size)); clear hb8)
            | (go_at_call 64; (with_reducible refine (hi2.out _ (BWO2.out.trans (B8.out.mono BWO2.out.size))).mono ?_); rintro e w9 ⟨rfl, hb9⟩; have hbx9 := Aside0.mk (blk_below hbx8.out hb9); have B9 := Aside0.mk (B8.out.trans (hb9.mono B8.out.size)); have HR9 := Aside0.mk (Kd.R_below HR.out B9.out); have BO9 := Aside0.mk (BO.out.trans (B9.out.mono BO.out.size)); clear hb9)
            | (refine Kd.R_append_step Kd.string (w0 := w6) w6.heap.size (by rfl) (.tmp 63) (.tmp 72) 35 9 (.string ByteArray.empty) 16 (by rfl) Tryz.underlying35 infoStr rfl (by decide) (by omega) u7 ((s.offers.map offB2).take k2) (ix ++ (⟨#[44]⟩ : ByteArray) ++ iy) [Value.string (ix ++ (⟨#[44]⟩ : ByteArray) ++ iy)] Tt (fun _ => False) (by rfl) (by rfl) rfl (fun _ hk => hk.elim) (fun _ _ => trivial) HR9.out BO9.out BO9.out.size (by rw [List.length_take]; omega) ?_; intro v1 w10 hR10 hb10 hg10 hat10; have HR10 := Aside0.mk hR10; have BO10 := Aside0.mk hb10; have hbx10 := Aside0.mk (blk_grown hbx9.out hg10 (Kd.R_ne HR9.out hbx9.out (by decide))); clear hR10 hb10 hg10 hat10))
          go_wp2
          go_roundg (s.offers.length - (k2 + 1))
          case measure => have := hgk2.out; omega
          case rel => exact ⟨k2 + 1, by go_num, by omega, ⟨Nat.le_refl _⟩, ⟨by rw [ET.out]; exact HR10.out⟩, BO10⟩
        · have hltz2 : ¬ (k2 : Int) < (s.offers.length : Int) := by omega
          have hRo := HR.out
          rw [List.take_of_length_le (by rw [List.length_map]; exact hge2)] at hRo
          have ht3 := text1_calls w.heap.size w.heap.size w6.heap.size acc3 offersW u7 (s.offers.map offB2) wo (builder_below HB6.out BO.out BW6.out.size) hRo (Nat.le_trans BW6.out.size BO.out.size) (by rw [List.length_map]; omega) (fun x hx => by
            obtain ⟨o, ho, rfl⟩ := List.mem_map.mp hx
            have h1 := HA.out.2.1.offers o ho
            have h2 := itoa_len (n := o.x) (by omega) (by omega)
            have h3 := itoa_len (n := o.y) (by omega) (by omega)
            have z1 : (⟨#[44]⟩ : ByteArray).size = 1 := by decide
            unfold offB2
            simp only [ByteArray.size_append]
            omega) (by decide) (by have := HA3.out; omega)
          unfold TextR at ht3
          have HT3 := Aside0.mk ht3
          obtain ⟨A7, c7, hu7⟩ := Kd.R_slice hRo
          rw [List.length_map] at hu7
          subst hu7
          clear hRo ht3
          have HFF := Aside0.mk (show acc3 ++ joinL (offersW :: s.offers.map offB2) ++ [10] = textF s by rw [← HAC3.out, ← HAC.out]; rfl)
          go_wp2_with (first
            | (go_at_call 65; (with_reducible refine HT3.out.mono ?_); rintro e w8 ⟨rfl, hB8, hb8⟩; rw [HFF.out] at hB8; have BW8 := Aside0.mk ((BW6.out.trans (BO.out.mono BW6.out.size)).trans hb8); have HST := Aside0.mk (Tryz.Builder_String_any w.heap.size w.heap.size (textF s) w8 hB8 BW8.out.size); clear hB8 hb8)
            | (go_at_call 69; (with_reducible refine HST.out.mono ?_); rintro e w9 ⟨rfl, hb9⟩; have BW9 := Aside0.mk (BW8.out.trans hb9); clear hb9))
          go_ret
          exact ⟨rfl, BW9.out⟩
end Go.Proofs.YtccnfbjdpgmlhaaGreatDoor
