/- Walks of the chest: Clone at three types, (*state).clone. Written by gen_clone.py. Walks of the chest: find, leaf. -/
import Derived.Test.YtccnfbjdpgmlhaaGreatDoorChG
import Derived.WalkSpells
import Derived.Lib.SliceRun
import Derived.Deep.RegionHeld3
import Derived.Deep.DeepMust
import Derived.Deep.RegionLaw
import Derived.BigRegion
namespace Go.Proofs.YtccnfbjdpgmlhaaGreatDoor
open Go.RowKit Go.Proofs.YtccnfbjdpgmlhaaGreatDoorW.PrintWords Go.Proofs.YtccnfbjdpgmlhaaGreatDoorW.PrintLast Go.Proofs.YtccnfbjdpgmlhaaGreatDoorW.PrintMore
set_option linter.unusedVariables false
set_option linter.unusedSimpArgs false

theorem len_nil_of {α : Type} {d : Kd α} {w : World} {n : Nat} {l : List α} (h : Kd.C d w none n l) : n = 0 := by
  rcases Nat.eq_zero_or_pos n with h1 | h1
  · exact h1
  · obtain ⟨ad, h2, _⟩ := h.2.2 h1
    cases h2

set_option maxHeartbeats 1000000 in
theorem clone_leaf (v : Value) (m : List Leaf) (base : Nat) (w : World) (h : Kd.R kLeaf 96 w base Tt v m) (hs : m.length ≤ 1000) :
    Calls Tryz.prog 71 #[v] w fun e w' => ∃ v', e = .returned v' ∧ Kd.R kLeaf 96 w' w.heap.size Tt v' m ∧ Below w.heap.size w w' := by
  obtain ⟨A, c, rfl, hc, hr⟩ := Kd.R_reads h
  have HR := Aside0.mk hr
  have HC := Aside0.mk hc
  have HS := Aside0.mk hs
  clear hr hc hs h
  have hq := fun (W : World) => Lib.run_eql_slice_nil (P := Tryz.prog) W 71 96 A m.length c 0 0 Tryz.underlying71
  cases A with
  | none =>
    have HM := Aside0.mk (List.eq_nil_of_length_eq_zero (len_nil_of HR.out))
    go_enter Tryz.func71, Tryz.ntmps71
    go_wp2
    go_ret
    exact ⟨.slice none 0 0, rfl, by rw [HM.out]; exact Kd.R_nil _ _ _ _ _, Below.refl _ _⟩
  | some ad =>
    have HO := Aside0.mk (show Kd.R kLeaf 96 (w.alloc (.cells #[] 96)) w.heap.size Tt (.slice (some ⟨w.heap.size, 0, none⟩) 0 0) [] from ⟨fun _ _ => trivial, OwnRow.lit w w.heap.size (ps := []) (Reps.none _ _) (Nat.le_refl _) (by simp)⟩)
    have HB := Aside0.mk ((Below.refl w.heap.size w).alloc (Nat.le_refl _) (.cells #[] 96))
    have HR' := Aside0.mk (Kd.C_below HR.out HB.out)
    have HK := Aside0.mk (fun (x : Leaf) (cs : List Value) (h : (kLeaf).K (w.alloc (.cells #[] 96)) x cs) => (show (kLeaf).M (w.alloc (.cells #[] 96)) w.heap.size (fun _ => False) x cs from by rw [kLeaf_open h]; exact kLeaf_mkM _ _ _ x))
    go_enter Tryz.func71, Tryz.ntmps71
    go_wp2_with (at_builtin; refine Kd.R_append_rows kLeaf (Rr := (kLeaf).K (w.alloc (.cells #[] 96))) (w0 := w) w.heap.size rfl (.tmp 5) (.tmp 6) 71 96 (.agg #[.string ByteArray.empty, .int .i64 0]) 24 rfl Tryz.underlying71 infoLeaf rfl (by decide) (by omega) (.slice (some ⟨w.heap.size, 0, none⟩) 0 0) [] m (some ad) m.length c Tt (fun _ => False) rfl rfl HO.out HR'.out HK.out (fun _ hk => hk.elim) (fun _ _ => trivial) HB.out (by simp) (by have := HS.out; simp; omega) ?_; intro v1 w1 hR1 hB1 hg1 hat1; have HR1 := Aside0.mk hR1; have HB1 := Aside0.mk hB1; clear hR1 hB1 hg1 hat1)
    go_ret
    exact ⟨v1, rfl, HR1.out, HB1.out⟩

set_option maxHeartbeats 1000000 in
theorem clone_int (v : Value) (m : List Int) (base : Nat) (w : World) (h : Kd.R (Kd.int .i64) 3 w base Tt v m) (hs : m.length ≤ 1000) :
    Calls Tryz.prog 72 #[v] w fun e w' => ∃ v', e = .returned v' ∧ Kd.R (Kd.int .i64) 3 w' w.heap.size Tt v' m ∧ Below w.heap.size w w' := by
  obtain ⟨A, c, rfl, hc, hr⟩ := Kd.R_reads h
  have HR := Aside0.mk hr
  have HC := Aside0.mk hc
  have HS := Aside0.mk hs
  clear hr hc hs h
  have hq := fun (W : World) => Lib.run_eql_slice_nil (P := Tryz.prog) W 37 3 A m.length c 0 0 Tryz.underlying37
  cases A with
  | none =>
    have HM := Aside0.mk (List.eq_nil_of_length_eq_zero (len_nil_of HR.out))
    go_enter Tryz.func72, Tryz.ntmps72
    go_wp2
    go_ret
    exact ⟨.slice none 0 0, rfl, by rw [HM.out]; exact Kd.R_nil _ _ _ _ _, Below.refl _ _⟩
  | some ad =>
    have HO := Aside0.mk (show Kd.R (Kd.int .i64) 3 (w.alloc (.cells #[] 3)) w.heap.size Tt (.slice (some ⟨w.heap.size, 0, none⟩) 0 0) [] from ⟨fun _ _ => trivial, OwnRow.lit w w.heap.size (ps := []) (Reps.none _ _) (Nat.le_refl _) (by simp)⟩)
    have HB := Aside0.mk ((Below.refl w.heap.size w).alloc (Nat.le_refl _) (.cells #[] 3))
    have HR' := Aside0.mk (Kd.C_below HR.out HB.out)
    have HK := Aside0.mk (fun (x : Int) (cs : List Value) (h : ((Kd.int .i64)).K (w.alloc (.cells #[] 3)) x cs) => (show ((Kd.int .i64)).M (w.alloc (.cells #[] 3)) w.heap.size (fun _ => False) x cs from by exact h))
    go_enter Tryz.func72, Tryz.ntmps72
    go_wp2_with (at_builtin; refine Kd.R_append_rows (Kd.int .i64) (Rr := ((Kd.int .i64)).K (w.alloc (.cells #[] 3))) (w0 := w) w.heap.size rfl (.tmp 5) (.tmp 6) 37 3 (.int .i64 0) 8 rfl Tryz.underlying37 infoInt rfl (by decide) (by omega) (.slice (some ⟨w.heap.size, 0, none⟩) 0 0) [] m (some ad) m.length c Tt (fun _ => False) rfl rfl HO.out HR'.out HK.out (fun _ hk => hk.elim) (fun _ _ => trivial) HB.out (by simp) (by have := HS.out; simp; omega) ?_; intro v1 w1 hR1 hB1 hg1 hat1; have HR1 := Aside0.mk hR1; have HB1 := Aside0.mk hB1; clear hR1 hB1 hg1 hat1)
    go_ret
    exact ⟨v1, rfl, HR1.out, HB1.out⟩

set_option maxHeartbeats 1000000 in
theorem clone_off (v : Value) (m : List Off) (base : Nat) (w : World) (h : Kd.R kOff 72 w base Tt v m) (hs : m.length ≤ 1000) :
    Calls Tryz.prog 73 #[v] w fun e w' => ∃ v', e = .returned v' ∧ Kd.R kOff 72 w' w.heap.size Tt v' m ∧ Below w.heap.size w w' := by
  obtain ⟨A, c, rfl, hc, hr⟩ := Kd.R_reads h
  have HR := Aside0.mk hr
  have HC := Aside0.mk hc
  have HS := Aside0.mk hs
  clear hr hc hs h
  have hq := fun (W : World) => Lib.run_eql_slice_nil (P := Tryz.prog) W 74 72 A m.length c 0 0 Tryz.underlying74
  cases A with
  | none =>
    have HM := Aside0.mk (List.eq_nil_of_length_eq_zero (len_nil_of HR.out))
    go_enter Tryz.func73, Tryz.ntmps73
    go_wp2
    go_ret
    exact ⟨.slice none 0 0, rfl, by rw [HM.out]; exact Kd.R_nil _ _ _ _ _, Below.refl _ _⟩
  | some ad =>
    have HO := Aside0.mk (show Kd.R kOff 72 (w.alloc (.cells #[] 72)) w.heap.size Tt (.slice (some ⟨w.heap.size, 0, none⟩) 0 0) [] from ⟨fun _ _ => trivial, OwnRow.lit w w.heap.size (ps := []) (Reps.none _ _) (Nat.le_refl _) (by simp)⟩)
    have HB := Aside0.mk ((Below.refl w.heap.size w).alloc (Nat.le_refl _) (.cells #[] 72))
    have HR' := Aside0.mk (Kd.C_below HR.out HB.out)
    have HK := Aside0.mk (fun (x : Off) (cs : List Value) (h : (kOff).K (w.alloc (.cells #[] 72)) x cs) => (show (kOff).M (w.alloc (.cells #[] 72)) w.heap.size (fun _ => False) x cs from by rw [kOff_open h]; exact kOff_mkM _ _ _ x))
    go_enter Tryz.func73, Tryz.ntmps73
    go_wp2_with (at_builtin; refine Kd.R_append_rows kOff (Rr := (kOff).K (w.alloc (.cells #[] 72))) (w0 := w) w.heap.size rfl (.tmp 5) (.tmp 6) 74 72 (.agg #[.int .i64 0, .int .i64 0]) 16 rfl Tryz.underlying74 infoOff rfl (by decide) (by omega) (.slice (some ⟨w.heap.size, 0, none⟩) 0 0) [] m (some ad) m.length c Tt (fun _ => False) rfl rfl HO.out HR'.out HK.out (fun _ hk => hk.elim) (fun _ _ => trivial) HB.out (by simp) (by have := HS.out; simp; omega) ?_; intro v1 w1 hR1 hB1 hg1 hat1; have HR1 := Aside0.mk hR1; have HB1 := Aside0.mk hB1; clear hR1 hB1 hg1 hat1)
    go_ret
    exact ⟨v1, rfl, HR1.out, HB1.out⟩

theorem StAt.parts {w : World} {base b : Nat} {s : St} (h : StAt w base b s) :
    ∃ v1 v2 v3 : Value, w.heap[b]? = some (.cells #[v1, v2, .int .i64 s.t0, .int .i64 s.t1, .int .i64 s.t2, .int .i64 s.t3, v3] 76 (0, 0)) ∧ base ≤ b ∧
    Kd.R kLeaf 96 w base Tt v1 s.leaves ∧ Kd.R (Kd.int .i64) 3 w base Tt v2 s.orders ∧ Kd.R kOff 72 w base Tt v3 s.offers := h
/-- the sizes of a state. -/
structure Sized (s : St) : Prop where
  leaves : s.leaves.length ≤ 6
  orders : s.orders.length ≤ 40
  offers : s.offers.length ≤ 8
set_option maxHeartbeats 2000000 in
theorem clone_calls (b base : Nat) (s : St) (w : World) (h : StAt w base b s) (hs : Sized s) :
    Calls Tryz.prog 41 #[.pointer (some ⟨b, 0, none⟩)] w fun e w' => ∃ b', e = .returned (.pointer (some ⟨b', 0, none⟩)) ∧ StAt w' w.heap.size b' s ∧ Below w.heap.size w w' := by
  obtain ⟨v1, v2, v3, hb, hbase, h1, h2, h3⟩ := h.parts
  have c0 := blk_cell hb 0
  have c1 := blk_cell hb 1
  have c2 := blk_cell hb 2
  have c3 := blk_cell hb 3
  have c4 := blk_cell hb 4
  have c5 := blk_cell hb 5
  have c6 := blk_cell hb 6
  simp only [List.getElem?_toArray, List.getElem?_cons_zero, List.getElem?_cons_succ] at c0 c1 c2 c3 c4 c5 c6
  have hl1 := Aside0.mk (fun (W : World) (hB : Below w.heap.size w W) => clone_leaf v1 s.leaves base W (Kd.R_below h1 hB) (by have := hs.leaves; omega))
  have hl2 := Aside0.mk (fun (W : World) (hB : Below w.heap.size w W) => clone_int v2 s.orders base W (Kd.R_below h2 hB) (by have := hs.orders; omega))
  have hl3 := Aside0.mk (fun (W : World) (hB : Below w.heap.size w W) => clone_off v3 s.offers base W (Kd.R_below h3 hB) (by have := hs.offers; omega))
  have HC := Aside0.mk h
  have hbl : b < w.heap.size := blk_lt hb
  have BW := Aside0.mk (Below.refl w.heap.size w)
  have HK := Aside0.mk (fun (W : World) (hB : Below w.heap.size w W) => And.intro ((hB.cell (p := ⟨b, 0, none⟩) hbl).trans c0) (And.intro ((hB.cell (p := ⟨b, 1, none⟩) hbl).trans c1) (And.intro ((hB.cell (p := ⟨b, 2, none⟩) hbl).trans c2) (And.intro ((hB.cell (p := ⟨b, 3, none⟩) hbl).trans c3) (And.intro ((hB.cell (p := ⟨b, 4, none⟩) hbl).trans c4) (And.intro ((hB.cell (p := ⟨b, 5, none⟩) hbl).trans c5) ((hB.cell (p := ⟨b, 6, none⟩) hbl).trans c6)))))))
  clear h h1 h2 h3 hb c0 c1 c2 c3 c4 c5 c6
  go_enter Tryz.func41, Tryz.ntmps41
  go_wp2_with (fail)
  go_region_held3 (fun W => W.cell? ⟨b, 0, none⟩ = some v1 ∧ W.cell? ⟨b, 1, none⟩ = some v2 ∧ W.cell? ⟨b, 2, none⟩ = some (.int .i64 s.t0) ∧ W.cell? ⟨b, 3, none⟩ = some (.int .i64 s.t1) ∧ W.cell? ⟨b, 4, none⟩ = some (.int .i64 s.t2) ∧ W.cell? ⟨b, 5, none⟩ = some (.int .i64 s.t3) ∧ W.cell? ⟨b, 6, none⟩ = some v3)
    (first | exact HK.out _ BW.out | exact HK.out _ (below_drew BW.out) | exact HK.out _ HB1.out | exact HK.out _ HB2.out | exact HK.out _ HB3.out | exact HK.out _ (below_alloc HB3.out _) | exact HK.out _ (below_drew HB3.out))
    (first
    | (go_at_call 71; (with_reducible refine (hl1.out _ (below_drew BW.out)).mono ?_); rintro e w1 ⟨u1, rfl, hR1, hb1⟩; obtain ⟨A1, k1, rfl⟩ := Kd.R_slice hR1; have HR1 := Aside0.mk hR1; have HB1 := Aside0.mk ((below_drew BW.out).trans (hb1.mono (Nat.le_refl _))); clear hR1 hb1)
    | (go_at_call 72; (with_reducible refine (hl2.out _ HB1.out).mono ?_); rintro e w2 ⟨u2, rfl, hR2, hb2⟩; obtain ⟨A2, k2, rfl⟩ := Kd.R_slice hR2; have HR2 := Aside0.mk hR2; have HB2 := Aside0.mk (HB1.out.trans (hb2.mono HB1.out.size)); have HR12 := Aside0.mk (Kd.R_below HR1.out hb2); clear hR2 hb2)
    | (go_at_call 73; (with_reducible refine (hl3.out _ HB2.out).mono ?_); rintro e w3 ⟨u3, rfl, hR3, hb3⟩; obtain ⟨A3, k3, rfl⟩ := Kd.R_slice hR3; have HR3 := Aside0.mk hR3; have HB3 := Aside0.mk (HB2.out.trans (hb3.mono HB2.out.size)); have HR13 := Aside0.mk (Kd.R_below HR12.out hb3); have HR23 := Aside0.mk (Kd.R_below HR2.out hb3); clear hR3 hb3))
  go_wp2
  go_ret
  exact ⟨w3.heap.size, rfl, ⟨_, _, _, blk_new _ _, HB3.out.size, Kd.R_alloc HR13.out _, Kd.R_alloc (Kd.R_lower HR23.out HB1.out.size) _, Kd.R_alloc (Kd.R_lower HR3.out HB2.out.size) _⟩, below_alloc HB3.out _⟩
end Go.Proofs.YtccnfbjdpgmlhaaGreatDoor

namespace Go.Proofs.YtccnfbjdpgmlhaaGreatDoor
open Go.RowKit Go.Proofs.YtccnfbjdpgmlhaaGreatDoorW.PrintWords Go.Proofs.YtccnfbjdpgmlhaaGreatDoorW.PrintLast Go.Proofs.YtccnfbjdpgmlhaaGreatDoorW.PrintMore
set_option linter.unusedVariables false
set_option linter.unusedSimpArgs false

def nameB (ch : ByteArray) (x : Leaf) : Bool := x.name.toList == ch.toList
def findF (s : St) (ch : ByteArray) : Int := idxT (nameB ch) s.leaves 0
set_option maxHeartbeats 1000000 in
theorem find1_calls (x : Leaf) (ch : ByteArray) (b1 : Nat) (w : World) (h1 : w.cell? ⟨b1, 0, none⟩ = some (.string ch)) :
    Calls Tryz.prog 102 #[.agg #[.string x.name, .int .i64 x.stock], .pointer (some ⟨b1, 0, none⟩)] w fun e w' => e = .returned (.bool (nameB ch x)) ∧ Below w.heap.size w w' := by
  obtain ⟨xc, xp⟩ := x
  have k1 : ∀ o, (w.alloc o).cell? ⟨b1, 0, none⟩ = some (.string ch) := fun o => (((Below.refl w.heap.size w).alloc (Nat.le_refl _) o).cell (World.block_lt_of_cell? w _ h1)).trans h1
  go_enter Tryz.func102, Tryz.ntmps102
  go_wp2
  go_ret
  exact ⟨rfl, (Below.refl _ _).alloc (Nat.le_refl _) _⟩
set_option maxHeartbeats 1000000 in
theorem find_calls (b base : Nat) (s : St) (ch : ByteArray) (w : World) (h : StAt w base b s) (hs : Sized s) :
    Calls Tryz.prog 74 #[.pointer (some ⟨b, 0, none⟩), .string ch] w fun e w' => e = .returned (.int .i64 (findF s ch)) ∧ Below w.heap.size w w' := by
  obtain ⟨v1, v2, v3, hb, hbase, h1, h2, h3⟩ := h.parts
  have c0 := blk_cell hb 0
  simp only [List.getElem?_toArray, List.getElem?_cons_zero] at c0
  obtain ⟨A, cap, rfl, hc, hC⟩ := Kd.R_reads h1
  have hB : Below w.heap.size w (w.alloc (.cells #[.string ch] 9)) := (Below.refl _ _).alloc (Nat.le_refl _) _
  have hcall := idx_leaf 102 #[.pointer (some ⟨w.heap.size, 0, none⟩)] (nameB ch) A cap s.leaves (w.alloc (.cells #[.string ch] 9))
    (enters_of Tryz.func102 (by kernel_rfl) rfl)
    (fun W x hx hB' => find1_calls x ch w.heap.size W ((hB'.cell (p := ⟨w.heap.size, 0, none⟩) (by simp)).trans (by simp)))
    (Kd.C_below hC hB) hc (by have := hs.leaves; omega)
  have k0 := (hB.cell (World.block_lt_of_cell? w _ c0)).trans c0
  have HB := Aside0.mk hB
  clear h h1 h2 h3 hC hb hB hc hs
  go_enter Tryz.func74, Tryz.ntmps74
  go_wp2_with (go_at_call 101; (with_reducible refine hcall.mono ?_); rintro e w' ⟨rfl, hb'⟩)
  go_ret
  exact ⟨rfl, HB.out.trans (hb'.mono (by simp))⟩

/-- a line in memory: its names and its numbers. -/
def LineAt (w : World) (vn vd : Value) (ns : List ByteArray) (ds : List Int) : Prop := ∃ base, Kd.R Kd.string 9 w base Tt vn ns ∧ Kd.R (Kd.int .i64) 3 w base Tt vd ds
theorem LineAt.below {w w' : World} {vn vd : Value} {ns : List ByteArray} {ds : List Int} (h : LineAt w vn vd ns ds) (hb : Below w.heap.size w w') : LineAt w' vn vd ns ds := by
  obtain ⟨base, h1, h2⟩ := h
  exact ⟨base, Kd.R_below h1 hb, Kd.R_below h2 hb⟩
theorem LineAt.name {w : World} {vn vd : Value} {ns : List ByteArray} {ds : List Int} (h : LineAt w vn vd ns ds) (k : Nat) (hk : k < ns.length) : ∃ ad c, vn = .slice (some ad) ns.length c ∧ w.cell? (ad.add k) = some (.string (ns.getD k ByteArray.empty)) := by
  obtain ⟨base, h1, h2⟩ := h
  obtain ⟨A, c, rfl, hl, hC⟩ := Kd.R_reads h1
  obtain ⟨ad, rfl, hx⟩ := Kd.at_string hC (k : Int) (by omega) (by omega)
  exact ⟨ad, c, rfl, hx⟩
theorem LineAt.number {w : World} {vn vd : Value} {ns : List ByteArray} {ds : List Int} (h : LineAt w vn vd ns ds) (k : Nat) (hk : k < ds.length) : ∃ ad c, vd = .slice (some ad) ds.length c ∧ w.cell? (ad.add k) = some (.int .i64 (ds.getD k 0)) := by
  obtain ⟨base, h1, h2⟩ := h
  obtain ⟨A, c, rfl, hl, hC⟩ := Kd.R_reads h2
  obtain ⟨ad, rfl, hx⟩ := Kd.at_int hC (k : Int) (by omega) (by omega)
  exact ⟨ad, c, rfl, hx⟩
def name0 (ns : List ByteArray) : ByteArray := ns.getD 0 ByteArray.empty
def num0 (ds : List Int) : Int := ds.getD 0 0
def ActR (r : St × Int) (b base : Nat) (w : World) (e : Ending) (w' : World) : Prop := e = .returned (.int .i64 r.2) ∧ StAt w' base b r.1 ∧ Below base w w'
def leafF (s : St) (ns : List ByteArray) (ds : List Int) : St × Int :=
  if 0 ≤ findF s (name0 ns) then (s, 5) else if 20 < num0 ds then (s, 2) else if s.leaves.length = 6 then (s, 7) else
  (⟨s.leaves ++ [⟨name0 ns, num0 ds⟩], s.orders, s.t0, s.t1, s.t2, s.t3, s.offers⟩, 0)
theorem StAt.putLeaves {w w1 : World} {base b : Nat} {s : St} {v v1 : Value} {ls : List Leaf} (h : StAt w base b s) (hv : w.cell? ⟨b, 0, none⟩ = some v) (hg : w.grownBy w1 v.ownBlock) (hR : Kd.R kLeaf 96 w1 base Tt v1 ls) :
    StAt (w1.setCell ⟨b, 0, none⟩ v1) base b ⟨ls, s.orders, s.t0, s.t1, s.t2, s.t3, s.offers⟩ := by
  obtain ⟨u1, u2, u3, hb, hbase, h1, h2, h3⟩ := h.parts
  have c0 := blk_cell hb 0
  simp only [List.getElem?_toArray, List.getElem?_cons_zero] at c0
  rw [hv] at c0
  injection c0 with c0
  subst c0
  have hb1 : w1.heap[b]? = some (.cells #[v, u2, .int .i64 s.t0, .int .i64 s.t1, .int .i64 s.t2, .int .i64 s.t3, u3] 76 (0, 0)) := blk_grown hb hg (Kd.R_ne h1 hb (by decide))
  refine ⟨v1, u2, u3, blk_set hb1 0 v1, hbase, ?_, ?_, ?_⟩
  · exact Kd.R_set hR hb1 (by simp [kLeaf, Kd.iso, Kd.pair, Kd.string, Kd.int, Kd.scalar]) 0 v1
  · exact Kd.R_set (Kd.R_over h2 h1 (by simp [Kd.int, Kd.scalar]) hg) hb1 (by simp [Kd.int, Kd.scalar]) 0 v1
  · exact Kd.R_set (Kd.R_over h3 h1 (by simp [kOff, Kd.iso, Kd.pair, Kd.int, Kd.scalar]) hg) hb1 (by simp [kOff, Kd.iso, Kd.pair, Kd.int, Kd.scalar]) 0 v1

set_option maxHeartbeats 4000000 in
set_option maxRecDepth 100000 in
theorem leaf_calls (b base : Nat) (s : St) (vn vd : Value) (ns : List ByteArray) (ds : List Int) (w : World) (h : StAt w base b s) (hs : Sized s) (hL : LineAt w vn vd ns ds) (hn : 1 ≤ ns.length) (hd : 1 ≤ ds.length) (hbs : base ≤ w.heap.size) :
    Calls Tryz.prog 42 #[.pointer (some ⟨b, 0, none⟩), .agg #[vn, vd]] w (ActR (leafF s ns ds) b base w) := by
  obtain ⟨an, kn', rfl, xn⟩ := hL.name 0 hn
  obtain ⟨ad, kd', rfl, xd⟩ := hL.number 0 hd
  have hB : Below w.heap.size w (w.alloc (.cells #[.slice (some an) ns.length kn', .slice (some ad) ds.length kd'] 82)) := (Below.refl _ _).alloc (Nat.le_refl _) _
  have hf := find_calls b base s (name0 ns) _ (h.below hB) hs
  obtain ⟨v1, v2, v3, hb, hbase, h1, h2, h3⟩ := h.parts
  have c0 := blk_cell hb 0
  simp only [List.getElem?_toArray, List.getElem?_cons_zero] at c0
  obtain ⟨A, cap, rfl, hc, hC⟩ := Kd.R_reads h1
  have hbl := blk_lt hb
  have hnl : an.block < w.heap.size := World.block_lt_of_cell? w _ xn
  have hdl : ad.block < w.heap.size := World.block_lt_of_cell? w _ xd
  have xn0 : w.cell? an = some (.string (name0 ns)) := xn
  have xd0 : w.cell? ad = some (.int .i64 (num0 ds)) := xd
  have xn1 := (hB.cell hnl).trans xn0
  have hn0 : (0 : Int) < (ns.length : Int) := by omega
  have hn00 : 0 < ns.length := by omega
  have hd00 : 0 < ds.length := by omega
  have hd0 : (0 : Int) < (ds.length : Int) := by omega
  have h6 := hs.leaves
  have HA := Aside0.mk (And.intro h (And.intro hs hbs))
  have HB := Aside0.mk hB
  have X0 := Aside0.mk (And.intro c0 (And.intro xn0 xd0))
  have R1 := Aside0.mk h1
  have F0 := Aside0.mk (blk_frozen hb 0)
  have BK := Aside0.mk hb
  have HBS := Aside0.mk hbase
  clear h hs hL xn xd xn0 xd0 hC h1 h2 h3 hb hc c0 hbs hB
  by_cases t1 : 0 ≤ findF s (name0 ns)
  · have E := Aside0.mk (show leafF s ns ds = (s, 5) by simp only [leafF, if_pos t1])
    go_enter Tryz.func42, Tryz.ntmps42
    go_wp2_with (go_at_call 74; (with_reducible refine hf.mono ?_); rintro e w1 ⟨rfl, hb1⟩)
    go_ret
    have hw := HB.out.trans (hb1.mono (by simp))
    exact ⟨by rw [E.out]; rfl, by rw [E.out]; exact HA.out.1.below hw, hw.mono HA.out.2.2⟩
  · by_cases t2 : 20 < num0 ds
    · have E := Aside0.mk (show leafF s ns ds = (s, 2) by simp only [leafF, if_neg t1, if_pos t2])
      go_enter Tryz.func42, Tryz.ntmps42
      go_wp2_with (go_at_call 74; (with_reducible refine hf.mono ?_); rintro e w1 ⟨rfl, hb1⟩; have hw := Aside0.mk (HB.out.trans (hb1.mono (by simp))); have g0 := (hw.out.cell (p := ⟨b, 0, none⟩) hbl).trans X0.out.1; have gn := (hw.out.cell hnl).trans X0.out.2.1; have gd := (hw.out.cell hdl).trans X0.out.2.2; have bx0 := (hb1.cell (p := ⟨w.heap.size, 0, none⟩) (by simp)).trans (show _ = some (.slice (some an) ns.length kn') by simp); have bx1 := (hb1.cell (p := ⟨w.heap.size, 1, none⟩) (by simp)).trans (show _ = some (.slice (some ad) ds.length kd') by simp); clear hb1)
      go_ret
      exact ⟨by rw [E.out]; rfl, by rw [E.out]; exact HA.out.1.below hw.out, hw.out.mono HA.out.2.2⟩
    · by_cases t3 : s.leaves.length = 6
      · have E := Aside0.mk (show leafF s ns ds = (s, 7) by simp only [leafF, if_neg t1, if_neg t2, if_pos t3])
        have t3b : ((s.leaves.length : Int) == 6) = true := by simp; omega
        go_enter Tryz.func42, Tryz.ntmps42
        go_wp2_with (go_at_call 74; (with_reducible refine hf.mono ?_); rintro e w1 ⟨rfl, hb1⟩; have hw := Aside0.mk (HB.out.trans (hb1.mono (by simp))); have g0 := (hw.out.cell (p := ⟨b, 0, none⟩) hbl).trans X0.out.1; have gn := (hw.out.cell hnl).trans X0.out.2.1; have gd := (hw.out.cell hdl).trans X0.out.2.2; have bx0 := (hb1.cell (p := ⟨w.heap.size, 0, none⟩) (by simp)).trans (show _ = some (.slice (some an) ns.length kn') by simp); have bx1 := (hb1.cell (p := ⟨w.heap.size, 1, none⟩) (by simp)).trans (show _ = some (.slice (some ad) ds.length kd') by simp); clear hb1)
        go_ret
        exact ⟨by rw [E.out]; rfl, by rw [E.out]; exact HA.out.1.below hw.out, hw.out.mono HA.out.2.2⟩
      · have E := Aside0.mk (show leafF s ns ds = (⟨s.leaves ++ [⟨name0 ns, num0 ds⟩], s.orders, s.t0, s.t1, s.t2, s.t3, s.offers⟩, 0) by simp only [leafF, if_neg t1, if_neg t2, if_neg t3])
        have t3b : ((s.leaves.length : Int) == 6) = false := by simp; omega
        go_enter Tryz.func42, Tryz.ntmps42
        go_wp2_with (go_at_call 74; (with_reducible refine hf.mono ?_); rintro e w1 ⟨rfl, hb1⟩; have hw := Aside0.mk (HB.out.trans (hb1.mono (by simp))); have g0 := (hw.out.cell (p := ⟨b, 0, none⟩) hbl).trans X0.out.1; have gn := (hw.out.cell hnl).trans X0.out.2.1; have gd := (hw.out.cell hdl).trans X0.out.2.2; have bx0 := (hb1.cell (p := ⟨w.heap.size, 0, none⟩) (by simp)).trans (show _ = some (.slice (some an) ns.length kn') by simp); have bx1 := (hb1.cell (p := ⟨w.heap.size, 1, none⟩) (by simp)).trans (show _ = some (.slice (some ad) ds.length kd') by simp); clear hb1)
        have gR := Aside0.mk (Kd.R_below R1.out hw.out)
        have hbW := Aside0.mk (blk_below BK.out hw.out)
        have HLN := Aside0.mk (show (s.leaves ++ [(⟨name0 ns, num0 ds⟩ : Leaf)]).length = s.leaves.length + 1 by simp)
        have hb1 := Aside0.mk (Nat.lt_of_lt_of_le hbl hw.out.size)
        have k0 : ∀ o, (w1.alloc o).cell? ⟨b, 0, none⟩ = some (.slice A s.leaves.length cap) := fun o => ((below_alloc (Below.refl w1.heap.size w1) o).cell hb1.out).trans g0
        have kn : ∀ o, (w1.alloc o).cell? an = some (.string (name0 ns)) := fun o => ((below_alloc (Below.refl w1.heap.size w1) o).cell (Nat.lt_of_lt_of_le hnl hw.out.size)).trans gn
        have kd : ∀ o, (w1.alloc o).cell? ad = some (.int .i64 (num0 ds)) := fun o => ((below_alloc (Below.refl w1.heap.size w1) o).cell (Nat.lt_of_lt_of_le hdl hw.out.size)).trans gd
        have kb0 : ∀ o, (w1.alloc o).cell? ⟨w.heap.size, 0, none⟩ = some (.slice (some an) ns.length kn') := fun o => ((below_alloc (Below.refl w1.heap.size w1) o).cell (World.block_lt_of_cell? w1 _ bx0)).trans bx0
        have kb1 : ∀ o, (w1.alloc o).cell? ⟨w.heap.size, 1, none⟩ = some (.slice (some ad) ds.length kd') := fun o => ((below_alloc (Below.refl w1.heap.size w1) o).cell (World.block_lt_of_cell? w1 _ bx1)).trans bx1
        go_region_law (first
          | (refine Kd.R_append_step kLeaf (w0 := w) base rfl (.tmp 30) (.tmp 40) 71 96 (.agg #[.string ByteArray.empty, .int .i64 0]) 24 rfl Tryz.underlying71 infoLeaf rfl (by decide) (by omega) (.slice A s.leaves.length cap) s.leaves ⟨name0 ns, num0 ds⟩ [.string (name0 ns), .int .i64 (num0 ds)] Tt (fun _ => False) rfl (by first | (go_simp; done) | (go_simp; rfl)) (kLeaf_mkM _ _ _ _) (fun _ hk => hk.elim) (fun _ _ => trivial) (Kd.R_drew gR.out) (below_drew (hw.out.mono HA.out.2.2)) (Nat.le_trans HA.out.2.2 hw.out.size) (by have := HA.out.2.1.leaves; omega) ?_; intro v1 w2 hR2 hb2 hg2 hat2; obtain ⟨A2, k2, rfl⟩ := Kd.R_slice hR2; rw [HLN.out] at hR2; have HR2 := Aside0.mk hR2; have HB2 := Aside0.mk hb2; have HG2 := Aside0.mk hg2; have m2 := blk_grown (blk_drew hbW.out) hg2 (Kd.R_ne (Kd.R_drew gR.out) (blk_drew hbW.out) (by decide)); have z0 := (blk_cell m2 0).trans rfl; have q0 := blk_frozen m2 0; clear hR2 hb2 hg2 hat2 m2))
        all_goals go_wp2
        all_goals go_ret
        all_goals rw [E.out]
        all_goals exact ⟨rfl, StAt.putLeaves (w := w1.drew) ((HA.out.1.below hw.out).below (below_drew (Below.refl _ _))) g0 HG2.out HR2.out, HB2.out.setCell (p := ⟨b, 0, none⟩) HBS.out _⟩
end Go.Proofs.YtccnfbjdpgmlhaaGreatDoor
