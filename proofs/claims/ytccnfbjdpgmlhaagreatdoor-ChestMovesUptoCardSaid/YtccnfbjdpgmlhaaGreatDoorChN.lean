/- Walks of the chest: order. Walks of the chest: taste. Walks of the chest: Contains at [][2]int, offer. Walks of the chest: offer. Walks of the chest: stocks, shares.are. -/
import Derived.Test.YtccnfbjdpgmlhaaGreatDoorChI
import Derived.Test.YtccnfbjdpgmlhaaGreatDoorWApart
namespace Go.Proofs.YtccnfbjdpgmlhaaGreatDoor
open Go.RowKit Go.Proofs.YtccnfbjdpgmlhaaGreatDoorW.PrintWords Go.Proofs.YtccnfbjdpgmlhaaGreatDoorW.PrintLast Go.Proofs.YtccnfbjdpgmlhaaGreatDoorW.PrintMore
set_option linter.unusedVariables false
set_option linter.unusedSimpArgs false

theorem idxT_lt {α : Type} (p : α → Bool) (l : List α) : ∀ (i : Int), 0 ≤ i → idxT p l i < i + l.length := by
  induction l with
  | nil => intro i h; simp only [idxT, List.length_nil]; omega
  | cons x l ih =>
    intro i h
    simp only [idxT, List.length_cons]
    split
    · omega
    · have := ih (i + 1) (by omega)
      omega
theorem findF_lt (s : St) (ch : ByteArray) : findF s ch < s.leaves.length := by
  have := idxT_lt (nameB ch) s.leaves 0 (by omega)
  unfold findF; omega
def St.setStock (s : St) (i : Nat) (u : Int) : St := ⟨s.leaves.set i ⟨(s.leaves.getD i default).name, u⟩, s.orders, s.t0, s.t1, s.t2, s.t3, s.offers⟩
theorem StAt.setStock {W : World} {base b g cap : Nat} {s : St} (h : StAt W base b s) (hv : W.cell? ⟨b, 0, none⟩ = some (.slice (some ⟨g, 0, none⟩) s.leaves.length cap)) (i : Nat) (hi : i < s.leaves.length) (u : Int) :
    StAt (W.setCell ⟨g, i * 2 + 1, none⟩ (.int .i64 u)) base b (s.setStock i u) ∧ (W.setCell ⟨g, i * 2 + 1, none⟩ (.int .i64 u)).heap[b]? = W.heap[b]? ∧ base ≤ g := by
  obtain ⟨u1, u2, u3, hb, hbase, h1, h2, h3⟩ := h.parts
  have c0 := blk_cell hb 0
  simp only [List.getElem?_toArray, List.getElem?_cons_zero] at c0
  rw [hv] at c0
  injection c0 with c0
  subst c0
  obtain ⟨_, _, hC⟩ := Kd.R_reads' h1
  obtain ⟨ad, e, x0, x1⟩ := at_leaf hC (i : Int) (by omega) (by omega)
  injection e with e
  subst e
  rw [Int.toNat_natCast, add_plain] at x0 x1
  have hl : kLeaf.sz = 2 := rfl
  obtain ⟨hR, hg⟩ := Kd.R_seg (seg := [.int .i64 u]) (c := [.string (s.leaves.getD i default).name, .int .i64 (s.leaves.getD i default).stock]) (j := 1) (okp := fun _ => False) (x' := ⟨(s.leaves.getD i default).name, u⟩) h1 (i : Int) (by omega) (by omega) rfl (fun j u' hj => by
    have hj2 : j < 2 := (List.getElem?_eq_some_iff.1 hj).1
    rw [hl, Int.toNat_natCast]
    rcases (show j = 0 ∨ j = 1 by omega) with rfl | rfl
    · have e : Value.string (s.leaves.getD i default).name = u' := by simpa using hj
      rw [← e]; exact x0
    · have e : Value.int .i64 (s.leaves.getD i default).stock = u' := by simpa using hj
      rw [← e]; exact x1) (by show 1 + 1 ≤ 2; omega) (kLeaf_mkM _ _ _ _) (fun _ hk => hk.elim)
  rw [hl, Int.toNat_natCast] at hR hg
  have hgo : (Value.slice (some ⟨g, 0, none⟩) s.leaves.length cap).ownBlock = some g := by simp [Value.ownBlock]
  have hg' : W.grownBy (W.setCell ⟨g, i * 2 + 1, none⟩ (.int .i64 u)) (Value.slice (some ⟨g, 0, none⟩) s.leaves.length cap).ownBlock := by rw [hgo]; exact hg
  have hb1 := blk_grown hb hg' (Kd.R_ne h1 hb (by decide))
  refine ⟨⟨_, _, _, hb1, hbase, ?_, Kd.R_over h2 h1 (by simp [Kd.int, Kd.scalar]) hg', Kd.R_over h3 h1 (by simp [kOff, Kd.iso, Kd.pair, Kd.int, Kd.scalar]) hg'⟩, hb1.trans hb.symm, Kd.R_base h1 g hgo⟩
  exact hR
theorem StAt.putOrders {w w1 : World} {base b : Nat} {s : St} {v v1 : Value} {ls : List Int} (h : StAt w base b s) (hv : w.cell? ⟨b, 1, none⟩ = some v) (hg : w.grownBy w1 v.ownBlock) (hR : Kd.R (Kd.int .i64) 3 w1 base Tt v1 ls) :
    StAt (w1.setCell ⟨b, 1, none⟩ v1) base b ⟨s.leaves, ls, s.t0, s.t1, s.t2, s.t3, s.offers⟩ := by
  obtain ⟨u1, u2, u3, hb, hbase, h1, h2, h3⟩ := h.parts
  have c0 := blk_cell hb 1
  simp only [List.getElem?_toArray, List.getElem?_cons_zero, List.getElem?_cons_succ] at c0
  rw [hv] at c0
  injection c0 with c0
  subst c0
  have hb1 : w1.heap[b]? = some (.cells #[u1, v, .int .i64 s.t0, .int .i64 s.t1, .int .i64 s.t2, .int .i64 s.t3, u3] 76 (0, 0)) := blk_grown hb hg (Kd.R_ne h2 hb (by decide))
  refine ⟨u1, v1, u3, blk_set hb1 1 v1, hbase, ?_, ?_, ?_⟩
  · exact Kd.R_set (Kd.R_over h1 h2 (by simp [kLeaf, Kd.iso, Kd.pair, Kd.string, Kd.int, Kd.scalar]) hg) hb1 (by simp [kLeaf, Kd.iso, Kd.pair, Kd.string, Kd.int, Kd.scalar]) 1 v1
  · exact Kd.R_set hR hb1 (by simp [Kd.int, Kd.scalar]) 1 v1
  · exact Kd.R_set (Kd.R_over h3 h2 (by simp [kOff, Kd.iso, Kd.pair, Kd.int, Kd.scalar]) hg) hb1 (by simp [kOff, Kd.iso, Kd.pair, Kd.int, Kd.scalar]) 1 v1
theorem StAt.orders_at {w : World} {base b : Nat} {s : St} {v : Value} (h : StAt w base b s) (hv : w.cell? ⟨b, 1, none⟩ = some v) : Kd.R (Kd.int .i64) 3 w base Tt v s.orders := by
  obtain ⟨u1, u2, u3, hb, hbase, h1, h2, h3⟩ := h.parts
  have c0 := blk_cell hb 1
  simp only [List.getElem?_toArray, List.getElem?_cons_zero, List.getElem?_cons_succ] at c0
  rw [hv] at c0
  injection c0 with c0
  subst c0
  exact h2
def stock (s : St) (i : Nat) : Int := (s.leaves.getD i default).stock
def orderF (s : St) (ns : List ByteArray) : St × Int :=
  let i := findF s (name0 ns)
  if i < 0 then (s, 4) else if stock s i.toNat = 0 then (s, 5) else if s.orders.length = 40 then (s, 7) else
  (⟨(s.setStock i.toNat (stock s i.toNat - 1)).leaves, s.orders ++ [i], s.t0, s.t1, s.t2, s.t3, s.offers⟩, 0)
/-- element i of the leaves, where there is one. -/
theorem StAt.leaf_at {w : World} {base b cap : Nat} {A : Option Addr} {s : St} (h : StAt w base b s) (hv : w.cell? ⟨b, 0, none⟩ = some (.slice A s.leaves.length cap)) (i : Nat) (hi : i < s.leaves.length) :
    ∃ g, A = some ⟨g, 0, none⟩ ∧ w.cell? ⟨g, i * 2, none⟩ = some (.string (s.leaves.getD i default).name) ∧ w.cell? ⟨g, i * 2 + 1, none⟩ = some (.int .i64 (stock s i)) ∧ w.frozen? ⟨g, i * 2 + 1, none⟩ = false ∧ base ≤ g := by
  obtain ⟨u1, u2, u3, hb, hbase, h1, h2, h3⟩ := h.parts
  have c0 := blk_cell hb 0
  simp only [List.getElem?_toArray, List.getElem?_cons_zero] at c0
  rw [hv] at c0
  injection c0 with c0
  subst c0
  obtain ⟨g, cap', e, hg, hgl, cells, hcs⟩ := Kd.R_form h1 (by omega)
  injection e with e1 _ e2
  subst e1
  obtain ⟨_, _, hC⟩ := Kd.R_reads' h1
  obtain ⟨ad, e, x0, x1⟩ := at_leaf hC (i : Int) (by omega) (by omega)
  injection e with e
  subst e
  rw [Int.toNat_natCast, add_plain] at x0 x1
  exact ⟨g, rfl, x0, x1, blk_frozen hcs _, hg⟩
/-- a state's own stocks and counts are numbers as the chest takes them. -/
def Nums (s : St) : Prop := ∀ i, i < s.leaves.length → 0 ≤ stock s i ∧ stock s i ≤ 20
set_option maxRecDepth 100000 in
set_option maxHeartbeats 4000000 in
theorem order_calls (b base : Nat) (s : St) (vn vd : Value) (ns : List ByteArray) (ds : List Int) (w : World) (h : StAt w base b s) (hs : Sized s) (hN : Nums s) (hL : LineAt w vn vd ns ds) (hn : 1 ≤ ns.length) (hbs : base ≤ w.heap.size) :
    Calls Tryz.prog 44 #[.pointer (some ⟨b, 0, none⟩), .agg #[vn, vd]] w (ActR (orderF s ns) b base w) := by
  obtain ⟨an, kn', rfl, xn⟩ := hL.name 0 hn
  obtain ⟨ad, kd', rfl⟩ : ∃ ad kd', vd = .slice ad ds.length kd' := by
    obtain ⟨_, _, h2⟩ := hL
    obtain ⟨A, c, e, _⟩ := Kd.R_reads h2
    exact ⟨A, c, e⟩
  have hB : Below w.heap.size w (w.alloc (.cells #[.slice (some an) ns.length kn', .slice ad ds.length kd'] 82)) := (Below.refl _ _).alloc (Nat.le_refl _) _
  have hf := find_calls b base s (name0 ns) _ (h.below hB) hs
  obtain ⟨v1, v2, v3, hb, hbase, h1, h2, h3⟩ := h.parts
  have c0 := blk_cell hb 0
  have c1 := blk_cell hb 1
  simp only [List.getElem?_toArray, List.getElem?_cons_zero, List.getElem?_cons_succ] at c0 c1
  obtain ⟨A, cap, rfl, hc, hC⟩ := Kd.R_reads h1
  obtain ⟨A2, cap2, rfl, hc2, hC2⟩ := Kd.R_reads h2
  have hbl := blk_lt hb
  have hnl : an.block < w.heap.size := World.block_lt_of_cell? w _ xn
  have xn0 : w.cell? an = some (.string (name0 ns)) := xn
  have xn1 := (hB.cell hnl).trans xn0
  have hn0 : (0 : Int) < (ns.length : Int) := by omega
  have hn00 : 0 < ns.length := by omega
  have h6 := hs.leaves
  have HA := Aside0.mk (And.intro h (And.intro hs (And.intro hbs hN)))
  have HB := Aside0.mk hB
  have X0 := Aside0.mk (And.intro c0 c1)
  have BK := Aside0.mk hb
  have HBS := Aside0.mk hbase
  have hFl := findF_lt s (name0 ns)
  have HFD := Aside0.mk (show orderF s ns = _ from rfl)
  clear h hs hN hL xn xn0 hC h1 h2 h3 hb hc c0 c1 hbs hB hc2 hC2 hbase
  by_cases t1 : findF s (name0 ns) < 0
  · have E := Aside0.mk (show orderF s ns = (s, 4) by simp only [orderF, if_pos t1])
    go_enter Tryz.func44, Tryz.ntmps44
    go_wp2_with (go_at_call 74; (with_reducible refine hf.mono ?_); rintro e w1 ⟨rfl, hb1⟩)
    go_ret
    have hw := HB.out.trans (hb1.mono (by simp))
    exact ⟨by rw [E.out]; rfl, by rw [E.out]; exact HA.out.1.below hw, hw.mono HA.out.2.2.1⟩
  · obtain ⟨i, hi⟩ : ∃ i : Nat, findF s (name0 ns) = (i : Int) := ⟨(findF s (name0 ns)).toNat, by omega⟩
    rw [hi] at hf hFl t1
    have hil : i < s.leaves.length := by omega
    obtain ⟨g, rfl, x0, x1, xf, hg⟩ := HA.out.1.leaf_at X0.out.1 i hil
    have hgl : g < w.heap.size := World.block_lt_of_cell? w _ x0
    have hq := HA.out.2.2.2 i hil
    have hi0 : (0 : Int) ≤ (i : Int) := by omega
    by_cases t2 : stock s i = 0
    · have E := Aside0.mk (show orderF s ns = (s, 5) by simp only [orderF, hi]; rw [if_neg t1, Int.toNat_natCast, if_pos t2])
      have t2b : (stock s i == 0) = true := by simp [t2]
      have HX := Aside0.mk x1
      clear x0 x1 xf hi t2
      generalize stock s i = q at HX hq t2b
      go_enter Tryz.func44, Tryz.ntmps44
      go_wp2_with (go_at_call 74; (with_reducible refine hf.mono ?_); rintro e w1 ⟨rfl, hb1⟩; have hw := Aside0.mk (HB.out.trans (hb1.mono (by simp))); have g0 := (hw.out.cell (p := ⟨b, 0, none⟩) hbl).trans X0.out.1; have g1 := (hw.out.cell (p := ⟨g, i * 2 + 1, none⟩) hgl).trans HX.out)
      go_ret
      exact ⟨by rw [E.out]; rfl, by rw [E.out]; exact HA.out.1.below hw.out, hw.out.mono HA.out.2.2.1⟩
    · have t2b : (stock s i == 0) = false := by simp [t2]
      by_cases t3 : s.orders.length = 40
      · have E := Aside0.mk (show orderF s ns = (s, 7) by simp only [orderF, hi]; rw [if_neg t1, Int.toNat_natCast, if_neg t2, if_pos t3])
        have t3b : ((s.orders.length : Int) == 40) = true := by simp; omega
        have HX := Aside0.mk x1
        clear x0 x1 xf hi t2
        generalize stock s i = q at HX hq t2b
        go_enter Tryz.func44, Tryz.ntmps44
        go_wp2_with (go_at_call 74; (with_reducible refine hf.mono ?_); rintro e w1 ⟨rfl, hb1⟩; have hw := Aside0.mk (HB.out.trans (hb1.mono (by simp))); have g0 := (hw.out.cell (p := ⟨b, 0, none⟩) hbl).trans X0.out.1; have g0' := (hw.out.cell (p := ⟨b, 1, none⟩) hbl).trans X0.out.2; have g1 := (hw.out.cell (p := ⟨g, i * 2 + 1, none⟩) hgl).trans HX.out)
        go_ret
        exact ⟨by rw [E.out]; rfl, by rw [E.out]; exact HA.out.1.below hw.out, hw.out.mono HA.out.2.2.1⟩
      · have E := Aside0.mk (show orderF s ns = (⟨(s.setStock i (stock s i - 1)).leaves, s.orders ++ [(i : Int)], s.t0, s.t1, s.t2, s.t3, s.offers⟩, 0) by simp only [orderF, hi]; rw [if_neg t1, Int.toNat_natCast, if_neg t2, if_neg t3])
        have t3b : ((s.orders.length : Int) == 40) = false := by simp; omega
        have HX := Aside0.mk (And.intro x1 xf)
        have H40 := HA.out.2.1.orders
        have HSS := Aside0.mk (fun (W : World) (hW : Below w.heap.size w W) => (HA.out.1.below hW).setStock ((hW.cell (p := ⟨b, 0, none⟩) hbl).trans X0.out.1) i hil (stock s i - 1))
        clear x0 x1 xf hi t2
        generalize stock s i = q at HX hq t2b HSS E
        go_enter Tryz.func44, Tryz.ntmps44
        have HLN := Aside0.mk (show (s.orders ++ [(i : Int)]).length = s.orders.length + 1 by simp)
        go_wp2_with (first
          | (go_at_call 74; (with_reducible refine hf.mono ?_); rintro e w1 ⟨rfl, hb1⟩; have hw := Aside0.mk (HB.out.trans (hb1.mono (by simp))); have g0 := (hw.out.cell (p := ⟨b, 0, none⟩) hbl).trans X0.out.1; have g0' := (hw.out.cell (p := ⟨b, 1, none⟩) hbl).trans X0.out.2; have g1 := (hw.out.cell (p := ⟨g, i * 2 + 1, none⟩) hgl).trans HX.out.1; have gf := (hw.out.frozen (p := ⟨g, i * 2 + 1, none⟩) hgl).trans HX.out.2; have HS2 := Aside0.mk (HSS.out w1 hw.out); have BK2 := Aside0.mk (HS2.out.2.1.trans (blk_below BK.out hw.out)); have g2 := (blk_cell BK2.out 1).trans rfl; have HO2 := Aside0.mk (HS2.out.1.orders_at g2); have BW2 := Aside0.mk ((hw.out.mono HA.out.2.2.1).setCell (p := ⟨g, i * 2 + 1, none⟩) hg (.int .i64 (q - 1))); have HZ2 := Aside0.mk (show base ≤ (w1.setCell ⟨g, i * 2 + 1, none⟩ (.int .i64 (q - 1))).heap.size from Nat.le_trans HA.out.2.2.1 BW2.out.size))
          | (at_builtin; refine Kd.R_append (Kd.int .i64) (w0 := w) base rfl (.tmp 27) (.tmp 29) 37 3 (.int .i64 0) 8 rfl Tryz.underlying37 infoInt rfl (by decide) (by omega) (.slice A2 s.orders.length cap2) s.orders (i : Int) [.int .i64 i] Tt (fun _ => False) rfl (by first | (go_simp; done) | (go_simp; rfl)) rfl (fun _ hk => hk.elim) (fun _ _ => trivial) HO2.out BW2.out HZ2.out (by omega) ?_; intro v1 w2 hR2 hb2 hg2 hat2; obtain ⟨A3, k3, rfl⟩ := Kd.R_slice hR2; rw [HLN.out] at hR2; have HR2 := Aside0.mk hR2; have HB2 := Aside0.mk hb2; have HG2 := Aside0.mk hg2; have m2 := blk_grown BK2.out hg2 (Kd.R_ne HO2.out BK2.out (by decide)); have z1 := (blk_cell m2 1).trans rfl; have q1 := blk_frozen m2 1; clear hR2 hb2 hg2 hat2 m2))
        go_ret
        rw [E.out]
        exact ⟨rfl, StAt.putOrders HS2.out.1 g2 HG2.out HR2.out, HB2.out.setCell (p := ⟨b, 1, none⟩) HBS.out _⟩
end Go.Proofs.YtccnfbjdpgmlhaaGreatDoor

namespace Go.Proofs.YtccnfbjdpgmlhaaGreatDoor
open Go.RowKit Go.Proofs.YtccnfbjdpgmlhaaGreatDoorW.PrintWords Go.Proofs.YtccnfbjdpgmlhaaGreatDoorW.PrintLast Go.Proofs.YtccnfbjdpgmlhaaGreatDoorW.PrintMore
set_option linter.unusedVariables false
set_option linter.unusedSimpArgs false

theorem LineAt.numbers {w : World} {vn vd : Value} {ns : List ByteArray} {ds : List Int} (h : LineAt w vn vd ns ds) (hl : 0 < ds.length) : ∃ ad c, vd = .slice (some ad) ds.length c ∧ ∀ k, k < ds.length → w.cell? (ad.add k) = some (.int .i64 (ds.getD k 0)) := by
  obtain ⟨ad, c, rfl, _⟩ := h.number 0 hl
  refine ⟨ad, c, rfl, fun k hk => ?_⟩
  obtain ⟨ad', c', e, hx⟩ := h.number k hk
  injection e with e
  injection e with e
  rw [e]; exact hx
theorem LineAt.names {w : World} {vn vd : Value} {ns : List ByteArray} {ds : List Int} (h : LineAt w vn vd ns ds) (hl : 0 < ns.length) : ∃ ad c, vn = .slice (some ad) ns.length c ∧ ∀ k, k < ns.length → w.cell? (ad.add k) = some (.string (ns.getD k ByteArray.empty)) := by
  obtain ⟨ad, c, rfl, _⟩ := h.name 0 hl
  refine ⟨ad, c, rfl, fun k hk => ?_⟩
  obtain ⟨ad', c', e, hx⟩ := h.name k hk
  injection e with e
  injection e with e
  rw [e]; exact hx
def num1 (ds : List Int) : Int := ds.getD 1 0
def sumT (s : St) : Int := s.t0 + s.t1 + (s.t2 + s.t3)
def St.bump (s : St) (i j : Int) : St :=
  if i = 0 then (if j = 0 then ⟨s.leaves, s.orders, s.t0 + 1, s.t1, s.t2, s.t3, s.offers⟩ else ⟨s.leaves, s.orders, s.t0, s.t1 + 1, s.t2, s.t3, s.offers⟩)
  else (if j = 0 then ⟨s.leaves, s.orders, s.t0, s.t1, s.t2 + 1, s.t3, s.offers⟩ else ⟨s.leaves, s.orders, s.t0, s.t1, s.t2, s.t3 + 1, s.offers⟩)
def tasteG (s : St) (i j : Int) : St × Int := if 1 < i ∨ 1 < j then (s, 2) else if sumT s = 16 then (s, 7) else (s.bump i j, 0)
def tasteF (s : St) (ds : List Int) : St × Int := tasteG s (num0 ds) (num1 ds)
structure Tastes (s : St) : Prop where
  p0 : 0 ≤ s.t0
  p1 : 0 ≤ s.t1
  p2 : 0 ≤ s.t2
  p3 : 0 ≤ s.t3
  most : sumT s ≤ 16
theorem infoOffs : (Tryz.prog.info? 72).map (fun i => i.size) = some 2 := by kernel_rfl
theorem undTastes : Tryz.prog.underlying 73 = some (.array 2 72) := by kernel_rfl
theorem idx_row0 (W : World) (a b c d : Value) : (Instr.index 73 (.agg #[a, b, c, d]) (.int .i64 0)).run Tryz.prog W = .ok (.agg #[a, b]) W := by
  obtain ⟨i0, hi, hz⟩ := Option.map_eq_some_iff.1 infoOffs
  simp [Instr.index, run_underlying undTastes, asIntOf, go_sem, sizeOf, typeInfo, hi, hz, Result.andThen]
theorem idx_row1 (W : World) (a b c d : Value) : (Instr.index 73 (.agg #[a, b, c, d]) (.int .i64 1)).run Tryz.prog W = .ok (.agg #[c, d]) W := by
  obtain ⟨i0, hi, hz⟩ := Option.map_eq_some_iff.1 infoOffs
  simp [Instr.index, run_underlying undTastes, asIntOf, go_sem, sizeOf, typeInfo, hi, hz, Result.andThen]
/-- a store into the tastes. -/
theorem StAt.setT {w : World} {base b : Nat} {s s' : St} (h : StAt w base b s) (j : Nat) (u : Int) (h1 : s'.leaves = s.leaves) (h2 : s'.orders = s.orders) (h3 : s'.offers = s.offers)
    (hc : ∀ v1 v2 v3 : Value, (#[v1, v2, .int .i64 s.t0, .int .i64 s.t1, .int .i64 s.t2, .int .i64 s.t3, v3] : Array Value).setIfInBounds j (.int .i64 u) = #[v1, v2, .int .i64 s'.t0, .int .i64 s'.t1, .int .i64 s'.t2, .int .i64 s'.t3, v3]) :
    StAt (w.setCell ⟨b, j, none⟩ (.int .i64 u)) base b s' := by
  obtain ⟨v1, v2, v3, hb, hbase, g1, g2, g3⟩ := h.parts
  refine ⟨v1, v2, v3, blk_put hb j _ (hc _ _ _), hbase, ?_, ?_, ?_⟩
  · rw [h1]; exact Kd.R_set g1 hb (by simp [kLeaf, Kd.iso, Kd.pair, Kd.string, Kd.int, Kd.scalar]) j _
  · rw [h2]; exact Kd.R_set g2 hb (by simp [Kd.int, Kd.scalar]) j _
  · rw [h3]; exact Kd.R_set g3 hb (by simp [kOff, Kd.iso, Kd.pair, Kd.int, Kd.scalar]) j _
set_option maxRecDepth 100000 in
set_option maxHeartbeats 4000000 in
theorem taste_calls (b base : Nat) (s : St) (vn vd : Value) (ns : List ByteArray) (ds : List Int) (w : World) (h : StAt w base b s) (hT : Tastes s) (hL : LineAt w vn vd ns ds) (hd : 2 ≤ ds.length) (hp0 : 0 ≤ num0 ds) (hp1 : 0 ≤ num1 ds) (hbs : base ≤ w.heap.size) :
    Calls Tryz.prog 45 #[.pointer (some ⟨b, 0, none⟩), .agg #[vn, vd]] w (ActR (tasteF s ds) b base w) := by
  obtain ⟨ad, kd', rfl, hxd⟩ := hL.numbers (by omega)
  have xd := hxd 0 (by omega)
  have yd := hxd 1 (by omega)
  obtain ⟨an, kn', rfl⟩ : ∃ an kn', vn = .slice an ns.length kn' := by
    obtain ⟨_, h1, _⟩ := hL
    obtain ⟨A, c, e, _⟩ := Kd.R_reads h1
    exact ⟨A, c, e⟩
  have hB : Below w.heap.size w (w.alloc (.cells #[.slice an ns.length kn', .slice (some ad) ds.length kd'] 82)) := (Below.refl _ _).alloc (Nat.le_refl _) _
  obtain ⟨v1, v2, v3, hb, hbase, h1, h2, h3⟩ := h.parts
  have c2 := blk_cell hb 2
  have c3 := blk_cell hb 3
  have c4 := blk_cell hb 4
  have c5 := blk_cell hb 5
  simp only [List.getElem?_toArray, List.getElem?_cons_zero, List.getElem?_cons_succ] at c2 c3 c4 c5
  have hbl := blk_lt hb
  have hdl : ad.block < w.heap.size := World.block_lt_of_cell? w _ xd
  have xd0 : w.cell? ad = some (.int .i64 (num0 ds)) := xd
  have yd0 : w.cell? (ad.add 1) = some (.int .i64 (num1 ds)) := yd
  have xd1 := (hB.cell hdl).trans xd0
  have yd1 := (hB.cell (p := ad.add 1) (World.block_lt_of_cell? w _ yd0)).trans yd0
  have ead : ad.add 1 = ⟨ad.block, ad.off + 1, none⟩ := by simp [Addr.add]
  rw [ead] at yd1
  have k2 := (hB.cell (p := ⟨b, 2, none⟩) hbl).trans c2
  have k3 := (hB.cell (p := ⟨b, 3, none⟩) hbl).trans c3
  have k4 := (hB.cell (p := ⟨b, 4, none⟩) hbl).trans c4
  have k5 := (hB.cell (p := ⟨b, 5, none⟩) hbl).trans c5
  have HK := Aside0.mk (And.intro k2 (And.intro k3 (And.intro k4 k5)))
  have hd0 : (1 : Int) < (ds.length : Int) := by omega
  have hd00 : 0 < ds.length := by omega
  have hd01 : 1 < ds.length := by omega
  have HA := Aside0.mk (And.intro h (And.intro hbs hT))
  have HB := Aside0.mk hB
  have BK := Aside0.mk hb
  have HBS := Aside0.mk hbase
  have q0 := hT.p0; have q1 := hT.p1; have q2 := hT.p2; have q3 := hT.p3; have qs := hT.most
  unfold sumT at qs
  have HF := Aside0.mk (show tasteF s ds = tasteG s (num0 ds) (num1 ds) from rfl)
  have C2 := Aside0.mk c2
  have C3 := Aside0.mk c3
  have C4 := Aside0.mk c4
  have C5 := Aside0.mk c5
  clear h hT hL hxd ead xd yd xd0 yd0 h1 h2 h3 hb c2 c3 c4 c5 hbs hB hbase
  generalize num0 ds = i at xd1 hp0 HF
  generalize num1 ds = j at yd1 hp1 HF
  go_enter Tryz.func45, Tryz.ntmps45
  go_wp2_with (fail)
  go_quiet (fail)
  generalize hWq : World.drewN (w.alloc (.cells #[.slice an ns.length kn', .slice (some ad) ds.length kd'] 82)) nq = w0
  have BW0 := Aside0.mk (show Below w.heap.size w w0 by rw [← hWq]; exact pw_below_drewN HB.out _)
  have hq0 : w0.cell? ⟨b, 2, none⟩ = some (.int .i64 s.t0) := by rw [← hWq]; exact HK.out.1
  have hq1 : w0.cell? ⟨b, 3, none⟩ = some (.int .i64 s.t1) := by rw [← hWq]; exact HK.out.2.1
  have hq2 : w0.cell? ⟨b, 4, none⟩ = some (.int .i64 s.t2) := by rw [← hWq]; exact HK.out.2.2.1
  have hq3 : w0.cell? ⟨b, 5, none⟩ = some (.int .i64 s.t3) := by rw [← hWq]; exact HK.out.2.2.2
  clear hWq xd1 yd1 k2 k3 k4 k5
  have ir0 := fun (W : World) => idx_row0 W (.int .i64 s.t0) (.int .i64 s.t1) (.int .i64 s.t2) (.int .i64 s.t3)
  have ir1 := fun (W : World) => idx_row1 W (.int .i64 s.t0) (.int .i64 s.t1) (.int .i64 s.t2) (.int .i64 s.t3)
  go_wp2
  go_loopg [7, 22] 2 (fun gg s7 s22 W => Aside0 (Below w.heap.size w W) ∧ ((s22 = .int .i64 0 ∧ s7 = .int .i64 0 ∧ Aside0 (2 ≤ gg)) ∨ (s22 = .int .i64 1 ∧ s7 = .int .i64 (s.t0 + s.t1) ∧ Aside0 (1 ≤ gg)) ∨ (s22 = .int .i64 2 ∧ s7 = .int .i64 (sumT s))))
  case atStart => exact ⟨BW0, .inl ⟨rfl, rfl, ⟨Nat.le_refl _⟩⟩⟩
  case round =>
    obtain ⟨BW, hr⟩ := hrel
    rcases hr with ⟨rfl, rfl, hg⟩ | ⟨rfl, rfl, hg⟩ | ⟨rfl, rfl⟩
    · go_wp2
      go_roundg 1
      case measure => have := hg.out; omega
      case rel => exact ⟨⟨below_alloc BW.out _⟩, .inr (.inl ⟨rfl, by go_num, ⟨Nat.le_refl _⟩⟩)⟩
    · go_wp2
      go_roundg 0
      case measure => have := hg.out; omega
      case rel => exact ⟨⟨below_alloc BW.out _⟩, .inr (.inr ⟨rfl, by unfold sumT; go_num⟩)⟩
    · have hS := Aside0.mk (HA.out.1.below BW.out)
      by_cases t1 : 1 < i
      · have E := Aside0.mk (show tasteF s ds = (s, 2) by rw [HF.out]; exact if_pos (.inl t1))
        go_wp2
        go_ret
        exact ⟨by rw [E.out]; rfl, by rw [E.out]; exact hS.out, BW.out.mono HA.out.2.1⟩
      · by_cases t2 : 1 < j
        · have E := Aside0.mk (show tasteF s ds = (s, 2) by rw [HF.out]; exact if_pos (.inr t2))
          go_wp2
          go_ret
          exact ⟨by rw [E.out]; rfl, by rw [E.out]; exact hS.out, BW.out.mono HA.out.2.1⟩
        · by_cases t3 : sumT s = 16
          · have t3b : (sumT s == 16) = true := by simp [t3]
            have E := Aside0.mk (show tasteF s ds = (s, 7) by rw [HF.out]; unfold tasteG; rw [if_neg (by omega), if_pos t3])
            clear t3
            generalize sumT s = ss at t3b
            go_wp2
            go_ret
            exact ⟨by rw [E.out]; rfl, by rw [E.out]; exact hS.out, BW.out.mono HA.out.2.1⟩
          · have t3b : (sumT s == 16) = false := by simp [t3]
            have T3 := Aside0.mk t3
            clear t3
            generalize sumT s = ss at t3b
            rcases (show i = 0 ∨ i = 1 by omega) with rfl | rfl
            · rcases (show j = 0 ∨ j = 1 by omega) with rfl | rfl
              ·
                have E := Aside0.mk (show tasteF s ds = (⟨s.leaves, s.orders, s.t0 + 1, s.t1, s.t2, s.t3, s.offers⟩, 0) by rw [HF.out]; unfold tasteG; rw [if_neg (by omega), if_neg T3.out]; rfl)
                have gc := (BW.out.cell (p := ⟨b, 2, none⟩) hbl).trans C2.out
                have gf := (BW.out.frozen (p := ⟨b, 2, none⟩) hbl).trans (blk_frozen BK.out 2)
                go_wp2_with (fail)
                go_region
                all_goals go_wp2
                all_goals go_ret
                all_goals rw [E.out]
                all_goals exact ⟨rfl, (hS.out.below (below_drew (Below.refl _ _))).setT 2 (s.t0 + 1) rfl rfl rfl (fun _ _ _ => rfl), ((below_drew BW.out).mono HA.out.2.1).setCell (p := ⟨b, 2, none⟩) HBS.out _⟩
              ·
                have E := Aside0.mk (show tasteF s ds = (⟨s.leaves, s.orders, s.t0, s.t1 + 1, s.t2, s.t3, s.offers⟩, 0) by rw [HF.out]; unfold tasteG; rw [if_neg (by omega), if_neg T3.out]; rfl)
                have gc := (BW.out.cell (p := ⟨b, 3, none⟩) hbl).trans C3.out
                have gf := (BW.out.frozen (p := ⟨b, 3, none⟩) hbl).trans (blk_frozen BK.out 3)
                go_wp2_with (fail)
                go_region
                all_goals go_wp2
                all_goals go_ret
                all_goals rw [E.out]
                all_goals exact ⟨rfl, (hS.out.below (below_drew (Below.refl _ _))).setT 3 (s.t1 + 1) rfl rfl rfl (fun _ _ _ => rfl), ((below_drew BW.out).mono HA.out.2.1).setCell (p := ⟨b, 3, none⟩) HBS.out _⟩
            · rcases (show j = 0 ∨ j = 1 by omega) with rfl | rfl
              ·
                have E := Aside0.mk (show tasteF s ds = (⟨s.leaves, s.orders, s.t0, s.t1, s.t2 + 1, s.t3, s.offers⟩, 0) by rw [HF.out]; unfold tasteG; rw [if_neg (by omega), if_neg T3.out]; rfl)
                have gc := (BW.out.cell (p := ⟨b, 4, none⟩) hbl).trans C4.out
                have gf := (BW.out.frozen (p := ⟨b, 4, none⟩) hbl).trans (blk_frozen BK.out 4)
                go_wp2_with (fail)
                go_region
                all_goals go_wp2
                all_goals go_ret
                all_goals rw [E.out]
                all_goals exact ⟨rfl, (hS.out.below (below_drew (Below.refl _ _))).setT 4 (s.t2 + 1) rfl rfl rfl (fun _ _ _ => rfl), ((below_drew BW.out).mono HA.out.2.1).setCell (p := ⟨b, 4, none⟩) HBS.out _⟩
              ·
                have E := Aside0.mk (show tasteF s ds = (⟨s.leaves, s.orders, s.t0, s.t1, s.t2, s.t3 + 1, s.offers⟩, 0) by rw [HF.out]; unfold tasteG; rw [if_neg (by omega), if_neg T3.out]; rfl)
                have gc := (BW.out.cell (p := ⟨b, 5, none⟩) hbl).trans C5.out
                have gf := (BW.out.frozen (p := ⟨b, 5, none⟩) hbl).trans (blk_frozen BK.out 5)
                go_wp2_with (fail)
                go_region
                all_goals go_wp2
                all_goals go_ret
                all_goals rw [E.out]
                all_goals exact ⟨rfl, (hS.out.below (below_drew (Below.refl _ _))).setT 5 (s.t3 + 1) rfl rfl rfl (fun _ _ _ => rfl), ((below_drew BW.out).mono HA.out.2.1).setCell (p := ⟨b, 5, none⟩) HBS.out _⟩
end Go.Proofs.YtccnfbjdpgmlhaaGreatDoor

namespace Go.Proofs.YtccnfbjdpgmlhaaGreatDoor
open Go.RowKit Go.Proofs.YtccnfbjdpgmlhaaGreatDoorW.PrintWords Go.Proofs.YtccnfbjdpgmlhaaGreatDoorW.PrintLast Go.Proofs.YtccnfbjdpgmlhaaGreatDoorW.PrintMore
attribute [local go_sem] max2_int min2_int max_two min_two max_three min_three max_four min_four
set_option linter.unusedVariables false
set_option linter.unusedSimpArgs false

theorem undOff : Tryz.prog.underlying 72 = some (.array 2 3) := by kernel_rfl
theorem infoInt1 : (Tryz.prog.info? 3).map (fun i => i.size) = some 1 := by kernel_rfl
theorem guardOff : Tryz.prog.eqGuardType Tryz.prog.depth 72 = false := by kernel_rfl
theorem eql_off (W : World) (x y a b : Int) : (binOp .eql 72 (.agg #[.int .i64 x, .int .i64 y]) (.agg #[.int .i64 a, .int .i64 b])).run Tryz.prog W = .ok (.bool ((x == a) && (y == b))) W := by
  obtain ⟨i0, hi, hz⟩ := Option.map_eq_some_iff.1 infoInt1
  have hu : Tryz.prog.underlying 3 = some (.int .i64) := by kernel_rfl
  rw [run_eql_struct]
  have h : ∀ d, (Op.equalIn (d + 1 + 1) 72 (.agg #[.int .i64 x, .int .i64 y]) (.agg #[.int .i64 a, .int .i64 b])).run Tryz.prog W = .ok ((x == a) && (y == b)) W := by
    intro d
    have h0 := fun (u v : Int) => run_equalIn_int (P := Tryz.prog) W d 3 .i64 .i64 u v hu
    rw [Op.equalIn]
    generalize hE : Op.equalIn (d + 1) = E at h0
    simp [run_underlying undOff, go_sem, sizeOf, typeInfo, hi, hz, Result.andThen]
    rw [show List.range' 0 2 = [0, 1] from rfl]
    simp only [List.forIn_cons, List.forIn_nil]
    cases e1 : (x == a) <;> cases e2 : (y == b) <;> simp [go_sem, Result.andThen, h0, e1, e2, Tryz.isAgg3]
  rw [h 9998]; rfl
def offB (x y : Int) (o : Off) : Bool := (x == o.x) && (y == o.y)
set_option maxHeartbeats 2000000 in
theorem idx_off (x y : Int) (A : Option Addr) (c : Nat) (l : List Off) (w : World) (hr0 : Kd.C kOff w A l.length l) (hc0 : l.length ≤ c) (hbig : l.length ≤ 1000) :
    Calls Tryz.prog 106 #[.slice A l.length c, .agg #[.int .i64 x, .int .i64 y]] w fun e w' => e = .returned (.int .i64 (idxT (offB x y) l 0)) ∧ Below w.heap.size w w' := by
  have HR := Aside0.mk hr0
  have HC := Aside0.mk hc0
  have hB0 := Aside0.mk ((Below.refl w.heap.size w).alloc (Nat.le_refl _) (.cells #[.int .i64 x, .int .i64 y] 72))
  have B0 := Aside0.mk (show (w.alloc (.cells #[.int .i64 x, .int .i64 y] 72)).cell? ⟨w.heap.size, 0, none⟩ = some (.int .i64 x) by simp)
  have B1 := Aside0.mk (show (w.alloc (.cells #[.int .i64 x, .int .i64 y] 72)).cell? ⟨w.heap.size, 1, none⟩ = some (.int .i64 y) by simp)
  have heq := fun (W : World) (a b : Int) => eql_off W x y a b
  clear hr0 hc0
  go_enter Tryz.func106, Tryz.ntmps106
  go_wp2
  generalize hw0 : w.alloc (.cells #[.int .i64 x, .int .i64 y] 72) = w0 at hB0 B0 B1
  have hlt0 : w.heap.size < w0.heap.size := World.block_lt_of_cell? w0 _ B0.out
  go_loopg [5, 8] l.length (fun gg _ s8 wr => ∃ kk : Nat, kk ≤ l.length ∧ Aside0 (l.length - kk ≤ gg) ∧ s8 = .int .i64 kk ∧ Aside0 (Below w0.heap.size w0 wr) ∧ Aside0 (idxT (offB x y) l 0 = idxT (offB x y) (l.drop kk) kk))
  case atStart => exact ⟨0, Nat.zero_le _, ⟨by omega⟩, rfl, ⟨Below.refl _ _⟩, ⟨by simp⟩⟩
  case round =>
    obtain ⟨kk, hkk, hg, rfl, BW, A1⟩ := hrel
    by_cases hlt : kk < l.length
    · have hltz : (kk : Int) < (l.length : Int) := by omega
      have hk0 : (0 : Int) ≤ (kk : Int) := by omega
      have h1 := A1.out
      rw [drop_at l default kk hlt] at h1
      simp only [idxT] at h1
      obtain ⟨ad, rfl, hx0, hx1⟩ := at_off HR.out (kk : Int) (by omega) (by omega)
      have hx0 := (BW.out.cell (Nat.lt_of_lt_of_le (World.block_lt_of_cell? w _ hx0) hB0.out.size)).trans ((hB0.out.cell (World.block_lt_of_cell? w _ hx0)).trans hx0)
      have hx1 := (BW.out.cell (Nat.lt_of_lt_of_le (World.block_lt_of_cell? w _ hx1) hB0.out.size)).trans ((hB0.out.cell (World.block_lt_of_cell? w _ hx1)).trans hx1)
      simp only [Int.toNat_natCast] at hx0 hx1
      have b0 := (BW.out.cell (p := ⟨w.heap.size, 0, none⟩) hlt0).trans B0.out
      have b1 := (BW.out.cell (p := ⟨w.heap.size, 1, none⟩) hlt0).trans B1.out
      generalize hy : l.getD kk default = o at h1 hx0 hx1
      obtain ⟨ox, oy⟩ := o
      clear hy A1
      rcases e1 : (x == ox) with _ | _
      · rw [show offB x y ⟨ox, oy⟩ = false by simp only [offB, e1, Bool.false_and]] at h1
        simp only [Bool.false_eq_true, if_false] at h1
        have H1 := Aside0.mk h1
        clear h1
        go_wp2_with (fail)
        go_quiet (fail)
        go_wp2
        go_roundg (l.length - (kk + 1))
        case measure => have := hg.out; omega
        case rel => exact ⟨kk + 1, by omega, ⟨by omega⟩, by go_num, ⟨pw_below_drewN BW.out _⟩, ⟨by have := H1.out; push_cast; exact this⟩⟩
      · rcases e2 : (y == oy) with _ | _
        · rw [show offB x y ⟨ox, oy⟩ = false by simp only [offB, e1, e2, Bool.and_false]] at h1
          simp only [Bool.false_eq_true, if_false] at h1
          have H1 := Aside0.mk h1
          clear h1
          go_wp2_with (fail)
          go_quiet (fail)
          go_wp2
          go_roundg (l.length - (kk + 1))
          case measure => have := hg.out; omega
          case rel => exact ⟨kk + 1, by omega, ⟨by omega⟩, by go_num, ⟨pw_below_drewN BW.out _⟩, ⟨by have := H1.out; push_cast; exact this⟩⟩
        · rw [show offB x y ⟨ox, oy⟩ = true by simp only [offB, e1, e2, Bool.and_true]] at h1
          simp only [if_true] at h1
          have H1 := Aside0.mk h1
          clear h1
          go_wp2_with (fail)
          go_quiet (fail)
          go_wp2
          go_ret
          exact ⟨by rw [H1.out]; rfl, hB0.out.trans ((pw_below_drewN BW.out _).mono hB0.out.size)⟩
    · have hltz : ¬ (kk : Int) < (l.length : Int) := by omega
      have h1 := A1.out
      rw [List.drop_eq_nil_of_le (by omega)] at h1
      simp only [idxT] at h1
      have H1 := Aside0.mk h1
      clear h1 A1
      go_wp2
      go_ret
      exact ⟨by rw [H1.out]; rfl, hB0.out.trans (BW.out.mono hB0.out.size)⟩

set_option maxHeartbeats 2000000 in
theorem has_off (x y : Int) (A : Option Addr) (c : Nat) (l : List Off) (w : World) (hr0 : Kd.C kOff w A l.length l) (hc0 : l.length ≤ c) (hbig : l.length ≤ 1000) :
    Calls Tryz.prog 77 #[.slice A l.length c, .agg #[.int .i64 x, .int .i64 y]] w fun e w' => e = .returned (.bool (l.any (offB x y))) ∧ Below w.heap.size w w' := by
  have hB0 := Aside0.mk ((Below.refl w.heap.size w).alloc (Nat.le_refl _) (.cells #[.int .i64 x, .int .i64 y] 72))
  have hcall := idx_off x y A c l _ (Kd.C_below hr0 hB0.out) hc0 hbig
  have HE := Aside0.mk (idxT_any (offB x y) l 0 (by omega))
  clear hr0 hc0
  generalize idxT (offB x y) l 0 = r at hcall HE
  go_enter Tryz.func77, Tryz.ntmps77
  go_wp2_with (go_at_call 106; (with_reducible refine hcall.mono ?_); rintro e w' ⟨rfl, hb'⟩)
  go_ret
  exact ⟨by rw [← HE.out]; rfl, hB0.out.trans (hb'.mono (by simp))⟩
end Go.Proofs.YtccnfbjdpgmlhaaGreatDoor

namespace Go.Proofs.YtccnfbjdpgmlhaaGreatDoor
open Go.RowKit Go.Proofs.YtccnfbjdpgmlhaaGreatDoorW.PrintWords Go.Proofs.YtccnfbjdpgmlhaaGreatDoorW.PrintLast Go.Proofs.YtccnfbjdpgmlhaaGreatDoorW.PrintMore
attribute [local go_sem] max2_int min2_int max_two min_two max_three min_three max_four min_four
set_option linter.unusedVariables false
set_option linter.unusedSimpArgs false

def offerG (s : St) (x y : Int) : St × Int :=
  if s.offers.any (offB x y) = true then (s, 5) else if 30 < max x y then (s, 2) else if s.offers.length = 8 then (s, 7) else
  (⟨s.leaves, s.orders, s.t0, s.t1, s.t2, s.t3, s.offers ++ [⟨x, y⟩]⟩, 0)
def offerF (s : St) (ds : List Int) : St × Int := offerG s (num0 ds) (num1 ds)
theorem StAt.putOffers {w w1 : World} {base b : Nat} {s : St} {v v1 : Value} {ls : List Off} (h : StAt w base b s) (hv : w.cell? ⟨b, 6, none⟩ = some v) (hg : w.grownBy w1 v.ownBlock) (hR : Kd.R kOff 72 w1 base Tt v1 ls) :
    StAt (w1.setCell ⟨b, 6, none⟩ v1) base b ⟨s.leaves, s.orders, s.t0, s.t1, s.t2, s.t3, ls⟩ := by
  obtain ⟨u1, u2, u3, hb, hbase, h1, h2, h3⟩ := h.parts
  have c0 := blk_cell hb 6
  simp only [List.getElem?_toArray, List.getElem?_cons_zero, List.getElem?_cons_succ] at c0
  rw [hv] at c0
  injection c0 with c0
  subst c0
  have hb1 : w1.heap[b]? = some (.cells #[u1, u2, .int .i64 s.t0, .int .i64 s.t1, .int .i64 s.t2, .int .i64 s.t3, v] 76 (0, 0)) := blk_grown hb hg (Kd.R_ne h3 hb (by decide))
  refine ⟨u1, u2, v1, blk_set hb1 6 v1, hbase, ?_, ?_, ?_⟩
  · exact Kd.R_set (Kd.R_over h1 h3 (by simp [kLeaf, Kd.iso, Kd.pair, Kd.string, Kd.int, Kd.scalar]) hg) hb1 (by simp [kLeaf, Kd.iso, Kd.pair, Kd.string, Kd.int, Kd.scalar]) 6 v1
  · exact Kd.R_set (Kd.R_over h2 h3 (by simp [Kd.int, Kd.scalar]) hg) hb1 (by simp [Kd.int, Kd.scalar]) 6 v1
  · exact Kd.R_set hR hb1 (by simp [kOff, Kd.iso, Kd.pair, Kd.int, Kd.scalar]) 6 v1
set_option maxRecDepth 100000 in
set_option maxHeartbeats 4000000 in
theorem offer_calls (b base : Nat) (s : St) (vn vd : Value) (ns : List ByteArray) (ds : List Int) (w : World) (h : StAt w base b s) (hs : Sized s) (hL : LineAt w vn vd ns ds) (hd : 2 ≤ ds.length) (hbs : base ≤ w.heap.size) :
    Calls Tryz.prog 46 #[.pointer (some ⟨b, 0, none⟩), .agg #[vn, vd]] w (ActR (offerF s ds) b base w) := by
  obtain ⟨ad, kd', rfl, hxd⟩ := hL.numbers (by omega)
  have xd := hxd 0 (by omega)
  have yd := hxd 1 (by omega)
  obtain ⟨an, kn', rfl⟩ : ∃ an kn', vn = .slice an ns.length kn' := by
    obtain ⟨_, h1, _⟩ := hL
    obtain ⟨A, c, e, _⟩ := Kd.R_reads h1
    exact ⟨A, c, e⟩
  have hB : Below w.heap.size w (w.alloc (.cells #[.slice an ns.length kn', .slice (some ad) ds.length kd'] 82)) := (Below.refl _ _).alloc (Nat.le_refl _) _
  obtain ⟨v1, v2, v3, hb, hbase, h1, h2, h3⟩ := h.parts
  have c6 := blk_cell hb 6
  simp only [List.getElem?_toArray, List.getElem?_cons_zero, List.getElem?_cons_succ] at c6
  obtain ⟨A, cap, rfl, hc, hC⟩ := Kd.R_reads h3
  have hbl := blk_lt hb
  have hdl : ad.block < w.heap.size := World.block_lt_of_cell? w _ xd
  have xd0 : w.cell? ad = some (.int .i64 (num0 ds)) := xd
  have yd0 : w.cell? (ad.add 1) = some (.int .i64 (num1 ds)) := yd
  have xd1 := (hB.cell hdl).trans xd0
  have yd1 := (hB.cell (p := ad.add 1) (World.block_lt_of_cell? w _ yd0)).trans yd0
  have ead : ad.add 1 = ⟨ad.block, ad.off + 1, none⟩ := by simp [Addr.add]
  rw [ead] at yd1
  have hd0 : (1 : Int) < (ds.length : Int) := by omega
  have hd00 : 0 < ds.length := by omega
  have hd01 : 1 < ds.length := by omega
  have HA := Aside0.mk (And.intro h (And.intro hbs hs))
  have HB := Aside0.mk hB
  have BK := Aside0.mk hb
  have HBS := Aside0.mk hbase
  have C6 := Aside0.mk c6
  have HC := Aside0.mk (And.intro hC hc)
  have R3 := Aside0.mk h3
  have HF := Aside0.mk (show offerF s ds = offerG s (num0 ds) (num1 ds) from rfl)
  have bx1 : (w.alloc (.cells #[.slice an ns.length kn', .slice (some ad) ds.length kd'] 82)).cell? ⟨w.heap.size, 1, none⟩ = some (.slice (some ad) ds.length kd') := by simp
  have hbb := Aside0.mk (show w.heap.size < (w.alloc (.cells #[.slice an ns.length kn', .slice (some ad) ds.length kd'] 82)).heap.size by simp)
  clear h hL hxd ead xd yd xd0 yd0 h1 h2 h3 hb c6 hbs hB hbase hC hc
  generalize num0 ds = i at xd1 HF
  generalize num1 ds = j at yd1 HF
  go_enter Tryz.func46, Tryz.ntmps46
  go_wp2_with (fail)
  generalize w.alloc (.cells #[.slice an ns.length kn', .slice (some ad) ds.length kd'] 82) = w0 at xd1 yd1 HB bx1 hbb
  have ax : ∀ o, (w0.alloc o).cell? ad = some (.int .i64 i) := fun o => ((below_alloc (Below.refl w0.heap.size w0) o).cell (World.block_lt_of_cell? w0 _ xd1)).trans xd1
  have ay : ∀ o, (w0.alloc o).cell? ⟨ad.block, ad.off + 1, none⟩ = some (.int .i64 j) := fun o => ((below_alloc (Below.refl w0.heap.size w0) o).cell (World.block_lt_of_cell? w0 _ yd1)).trans yd1
  have ab : ∀ o, (w0.alloc o).cell? ⟨w.heap.size, 1, none⟩ = some (.slice (some ad) ds.length kd') := fun o => ((below_alloc (Below.refl w0.heap.size w0) o).cell (World.block_lt_of_cell? w0 _ bx1)).trans bx1
  go_region
  generalize hW1 : World.drew (w0.alloc (.cells #[.int .i64 i, .int .i64 j] 72)) = w1
  generalize hG : w0.heap.size = g
  have GB := Aside0.mk (show w1.heap[g]? = some (.cells #[.int .i64 i, .int .i64 j] 72 (0, 0)) by rw [← hW1, ← hG]; exact blk_drew (blk_new _ _))
  have BW1 := Aside0.mk (show Below w.heap.size w w1 by rw [← hW1]; exact below_drew (below_alloc HB.out _))
  have gle := Aside0.mk (show w.heap.size ≤ g by rw [← hG]; exact HB.out.size)
  clear hW1 hG ax ay ab xd1 yd1 bx1 hbb HB
  have hcall := has_off i j A cap s.offers
  have HCW := Aside0.mk (fun (W : World) (hW : Below w.heap.size w W) => hcall W (Kd.C_below HC.out.1 hW) HC.out.2 (by have := HA.out.2.2.offers; omega))
  have m6 := (BW1.out.cell (p := ⟨b, 6, none⟩) hbl).trans C6.out
  have n0 := (blk_cell GB.out 0).trans rfl
  have n1 := (blk_cell GB.out 1).trans rfl
  clear hcall
  go_wp2_with (fail)
  go_region_held3 (fun W => W.cell? ⟨b, 6, none⟩ = some (.slice A s.offers.length cap) ∧ W.cell? ⟨g, 0, none⟩ = some (.int .i64 i) ∧ W.cell? ⟨g, 1, none⟩ = some (.int .i64 j))
    (first | exact ⟨m6, n0, n1⟩ | exact ⟨(BW2.out.cell (p := ⟨b, 6, none⟩) hbl).trans C6.out, (blk_cell GB2.out 0).trans rfl, (blk_cell GB2.out 1).trans rfl⟩)
    (first | (go_at_call 77; (with_reducible refine (HCW.out _ (below_drew BW1.out)).mono ?_); rintro e w2 ⟨rfl, hb2⟩; have BW2 := Aside0.mk ((below_drew BW1.out).trans (hb2.mono BW1.out.size)); have GB2 := Aside0.mk (blk_below (blk_drew GB.out) hb2); clear hb2))
  have o6 := (BW2.out.cell (p := ⟨b, 6, none⟩) hbl).trans C6.out
  have o0 := (blk_cell GB2.out 0).trans rfl
  have o1 := (blk_cell GB2.out 1).trans rfl
  have hS := Aside0.mk (HA.out.1.below BW2.out)
  clear m6 n0 n1 BW1 GB HCW
  rcases (show (max i j = i ∧ j ≤ i) ∨ (max i j = j ∧ ¬ j ≤ i) by omega) with ⟨hmx, hij⟩ | ⟨hmx, hij⟩
  all_goals
    cases e1 : s.offers.any (offB i j) with
    | true =>
      have E := Aside0.mk (show offerF s ds = (s, 5) by rw [HF.out]; exact if_pos e1)
      clear e1
      go_wp2
      go_ret
      exact ⟨by rw [E.out]; rfl, by rw [E.out]; exact hS.out, BW2.out.mono HA.out.2.1⟩
    | false =>
      have e1' : ¬ s.offers.any (offB i j) = true := by rw [e1]; decide
      by_cases t2 : 30 < max i j
      · have E := Aside0.mk (show offerF s ds = (s, 2) by rw [HF.out]; unfold offerG; rw [if_neg e1', if_pos t2])
        clear e1 e1'
        rw [hmx] at t2
        go_wp2
        go_ret
        exact ⟨by rw [E.out]; rfl, by rw [E.out]; exact hS.out, BW2.out.mono HA.out.2.1⟩
      · by_cases t3 : s.offers.length = 8
        · have E := Aside0.mk (show offerF s ds = (s, 7) by rw [HF.out]; unfold offerG; rw [if_neg e1', if_neg t2, if_pos t3])
          have t3b : ((s.offers.length : Int) == 8) = true := by simp; omega
          clear e1 e1'
          rw [hmx] at t2
          go_wp2
          go_ret
          exact ⟨by rw [E.out]; rfl, by rw [E.out]; exact hS.out, BW2.out.mono HA.out.2.1⟩
        · have E := Aside0.mk (show offerF s ds = (⟨s.leaves, s.orders, s.t0, s.t1, s.t2, s.t3, s.offers ++ [⟨i, j⟩]⟩, 0) by rw [HF.out]; unfold offerG; rw [if_neg e1', if_neg t2, if_neg t3])
          have t3b : ((s.offers.length : Int) == 8) = false := by simp; omega
          clear e1 e1'
          have HLN := Aside0.mk (show (s.offers ++ [(⟨i, j⟩ : Off)]).length = s.offers.length + 1 by simp)
          have gR := Aside0.mk (Kd.R_below R3.out BW2.out)
          have hbW := Aside0.mk (blk_below BK.out BW2.out)
          have q6 : ∀ o, (w2.alloc o).cell? ⟨b, 6, none⟩ = some (.slice A s.offers.length cap) := fun o => ((below_alloc (Below.refl w2.heap.size w2) o).cell (World.block_lt_of_cell? w2 _ o6)).trans o6
          have q0 : ∀ o, (w2.alloc o).cell? ⟨g, 0, none⟩ = some (.int .i64 i) := fun o => ((below_alloc (Below.refl w2.heap.size w2) o).cell (World.block_lt_of_cell? w2 _ o0)).trans o0
          have q1 : ∀ o, (w2.alloc o).cell? ⟨g, 1, none⟩ = some (.int .i64 j) := fun o => ((below_alloc (Below.refl w2.heap.size w2) o).cell (World.block_lt_of_cell? w2 _ o1)).trans o1
          go_wp2_with (fail)
          go_region_law (first
            | (refine Kd.R_append_step kOff (w0 := w) base rfl (.tmp 40) (.tmp 42) 74 72 (.agg #[.int .i64 0, .int .i64 0]) 16 rfl Tryz.underlying74 infoOff rfl (by decide) (by omega) (.slice A s.offers.length cap) s.offers ⟨i, j⟩ [.int .i64 i, .int .i64 j] Tt (fun _ => False) rfl (by first | (go_simp; done) | (go_simp; rfl)) (kOff_mkM _ _ _ _) (fun _ hk => hk.elim) (fun _ _ => trivial) (Kd.R_drew gR.out) (below_drew (BW2.out.mono HA.out.2.1)) (Nat.le_trans HA.out.2.1 BW2.out.size) (by have := HA.out.2.2.offers; omega) ?_; intro v1 w3 hR2 hb2 hg2 hat2; obtain ⟨A2, k2, rfl⟩ := Kd.R_slice hR2; rw [HLN.out] at hR2; have HR2 := Aside0.mk hR2; have HB2 := Aside0.mk hb2; have HG2 := Aside0.mk hg2; have m2 := blk_grown (blk_drew hbW.out) hg2 (Kd.R_ne (Kd.R_drew gR.out) (blk_drew hbW.out) (by decide)); have z6 := (blk_cell m2 6).trans rfl; have zf := blk_frozen m2 6; clear hR2 hb2 hg2 hat2 m2))
          all_goals go_wp2
          all_goals go_ret
          all_goals rw [E.out]
          all_goals exact ⟨rfl, StAt.putOffers (w := w2.drew) (hS.out.below (below_drew (Below.refl _ _))) o6 HG2.out HR2.out, HB2.out.setCell (p := ⟨b, 6, none⟩) HBS.out _⟩
end Go.Proofs.YtccnfbjdpgmlhaaGreatDoor

namespace Go.Proofs.YtccnfbjdpgmlhaaGreatDoor
open Go.RowKit Go.Proofs.YtccnfbjdpgmlhaaGreatDoorW.PrintWords Go.Proofs.YtccnfbjdpgmlhaaGreatDoorW.PrintLast Go.Proofs.YtccnfbjdpgmlhaaGreatDoorW.PrintMore
set_option linter.unusedVariables false
set_option linter.unusedSimpArgs false

def stocksF (s : St) : List Int := s.leaves.map (·.stock)
theorem stocksF_length (s : St) : (stocksF s).length = s.leaves.length := by simp [stocksF]
theorem stocksF_getD (s : St) (i : Nat) (h : i < s.leaves.length) : (stocksF s).getD i 0 = stock s i := by
  rw [stocksF, stock, List.getD_eq_getElem?_getD, List.getD_eq_getElem?_getD, List.getElem?_map, List.getElem?_eq_getElem h]; rfl
set_option maxHeartbeats 2000000 in
theorem stocks_calls (b base : Nat) (s : St) (w : World) (h : StAt w base b s) (hs : Sized s) :
    Calls Tryz.prog 75 #[.pointer (some ⟨b, 0, none⟩)] w fun e w' => ∃ v, e = .returned v ∧ Kd.R (Kd.int .i64) 3 w' w.heap.size Tt v (stocksF s) ∧ Below w.heap.size w w' := by
  obtain ⟨v1, v2, v3, hb, hbase, h1, h2, h3⟩ := h.parts
  have c0 := blk_cell hb 0
  simp only [List.getElem?_toArray, List.getElem?_cons_zero] at c0
  obtain ⟨A, cap, rfl, hc, hC⟩ := Kd.R_reads h1
  have HC := Aside0.mk hC
  have h6 := hs.leaves
  clear h h1 h2 h3 hb hbase hs
  go_enter Tryz.func75, Tryz.ntmps75
  go_wp2
  go_loopg [3, 11] s.leaves.length (fun gg s3 s11 W => ∃ (k : Nat), s11 = .int .i64 k ∧ k ≤ s.leaves.length ∧ Aside0 (s.leaves.length - k ≤ gg) ∧ Aside0 (Kd.R (Kd.int .i64) 3 W w.heap.size Tt s3 ((stocksF s).take k)) ∧ Aside0 (Below w.heap.size w W))
  case atStart => exact ⟨0, rfl, Nat.zero_le _, ⟨by omega⟩, ⟨Kd.R_nil _ _ _ _ _⟩, ⟨Below.refl _ _⟩⟩
  case round =>
    obtain ⟨k, rfl, hk, hgk, HR, BW⟩ := hrel
    rcases Nat.lt_or_ge k s.leaves.length with hlt | hge
    · have hltz : (k : Int) < (s.leaves.length : Int) := by omega
      have hk0 : (0 : Int) ≤ (k : Int) := by omega
      have ET := Aside0.mk (take_snoc (stocksF s) 0 k (by rw [stocksF_length]; exact hlt))
      rw [stocksF_getD s k hlt] at ET
      obtain ⟨ad, rfl, hx0, hx1⟩ := at_leaf HC.out (k : Int) (by omega) (by omega)
      rw [Int.toNat_natCast] at hx0 hx1
      replace hx0 := (BW.out.cell (World.block_lt_of_cell? w _ hx0)).trans hx0
      replace hx1 := (BW.out.cell (World.block_lt_of_cell? w _ hx1)).trans hx1
      have hst : (s.leaves.getD k default).stock = stock s k := rfl
      rw [hst] at hx1
      clear hst
      generalize (s.leaves.getD k default).name = nm at hx0
      generalize stock s k = q at hx1 ET
      have hb := Aside0.mk ((Below.refl wr.heap.size wr).alloc (Nat.le_refl _) (.cells #[.string nm, .int .i64 q] 96))
      have HR1 := Aside0.mk (Kd.R_below HR.out hb.out)
      have BW1 := Aside0.mk (BW.out.trans (hb.out.mono BW.out.size))
      go_wp2_with (at_builtin; refine Kd.R_append (Kd.int .i64) (w0 := w) w.heap.size rfl (.tmp 15) (.tmp 18) 37 3 (.int .i64 0) 8 rfl Tryz.underlying37 infoInt rfl (by decide) (by omega) u3 ((stocksF s).take k) q [.int .i64 q] Tt (fun _ => False) rfl (by first | (go_simp; done) | (go_simp; rfl)) rfl (fun _ hk => hk.elim) (fun _ _ => trivial) HR1.out BW1.out BW1.out.size (by rw [List.length_take]; omega) ?_; intro v1 w2 hR2 hb2 hg2 hat2; have HR2 := Aside0.mk hR2; have HB2 := Aside0.mk hb2; clear hR2 hb2 hg2 hat2)
      go_roundg (s.leaves.length - (k + 1))
      case measure => have := hgk.out; omega
      case rel => exact ⟨k + 1, by go_num, by omega, ⟨Nat.le_refl _⟩, ⟨by rw [ET.out]; exact HR2.out⟩, HB2⟩
    · have hltz : ¬ (k : Int) < (s.leaves.length : Int) := by omega
      have E := Aside0.mk (show (stocksF s).take k = stocksF s from List.take_of_length_le (by rw [stocksF_length]; exact hge))
      go_wp2
      go_ret
      exact ⟨u3, rfl, by have := HR.out; rw [E.out] at this; exact this, BW.out⟩

/-- a row of numbers of its own block. -/
structure Row where
  b : Nat
  c : Nat
  xs : List Int
instance : Inhabited Row := ⟨⟨0, 0, []⟩⟩
def Row.v (r : Row) : Value := .slice (some ⟨r.b, 0, none⟩) r.xs.length r.c
def Row.At (w : World) (n : Nat) (r : Row) : Prop := r.xs.length = n ∧ ∀ j, j < r.xs.length → w.cell? ⟨r.b, 0 + j, none⟩ = some (.int .i64 (r.xs.getD j 0))
def areB (xs : List Int) : Bool := !decide (Lib.minOf xs < 0) && !decide (20 < Lib.maxOf xs)
set_option maxHeartbeats 2000000 in
theorem are_calls (g cap n : Nat) (rows : List Row) (w : World) (hn : 1 ≤ n) (hn6 : n ≤ 6) (hr0 : 1 ≤ rows.length) (hr : rows.length ≤ 9)
    (hg : ∀ j, j < rows.length → w.cell? ⟨g, j, none⟩ = some (rows.getD j default).v) (hx : ∀ r ∈ rows, r.At w n) :
    Calls Tryz.prog 103 #[.slice (some ⟨g, 0, none⟩) rows.length cap] w fun e w' => e = .returned (.bool (rows.all (fun r => areB r.xs))) ∧ w = w' := by
  have HG := Aside0.mk hg
  have HX := Aside0.mk hx
  have HA := Aside0.mk (show (rows.drop 0).all (fun r => areB r.xs) = rows.all (fun r => areB r.xs) by simp)
  have g0 := hg 0 (by omega)
  have x0 : (rows.getD 0 default).xs.length = n := (hx _ (getD_mem (by omega))).1
  unfold Row.v at g0
  rw [x0] at g0
  generalize (rows.getD 0 default).b = b0 at g0
  generalize (rows.getD 0 default).c = c0 at g0
  have hr00 : (0 : Int) < (rows.length : Int) := by omega
  have hr01 : 0 < rows.length := by omega
  clear hg hx x0
  go_enter Tryz.func103, Tryz.ntmps103
  go_wp2
  go_loopg [7] rows.length (fun gg s7 W => ∃ (k : Nat), s7 = .int .i64 k ∧ k ≤ rows.length ∧ Aside0 (rows.length - k ≤ gg) ∧ Aside0 ((rows.drop k).all (fun r => areB r.xs) = rows.all (fun r => areB r.xs)) ∧ w = W)
  case atStart => exact ⟨0, rfl, Nat.zero_le _, ⟨by omega⟩, HA, rfl⟩
  case round =>
    obtain ⟨k, rfl, hk, hgk, HE, rfl⟩ := hrel
    rcases Nat.lt_or_ge k rows.length with hlt | hge
    · have hltz : (k : Int) < (rows.length : Int) := by omega
      have hk0 : (0 : Int) ≤ (k : Int) := by omega
      have gk := HG.out k hlt
      obtain ⟨xk, xc⟩ := HX.out _ (getD_mem (z := default) hlt)
      have e1 := HE.out
      rw [drop_at rows default k hlt, List.all_cons] at e1
      generalize rows.getD k default = r at gk xk xc e1
      obtain ⟨rb, rc, xs⟩ := r
      have xk' : xs.length = n := xk
      have hmin := (Tryz.slices_Min_int rb 0 xs.length rc xs w (by omega) (Nat.le_refl _) (by omega) xc).mono (fun e w' h => (And.intro h.1 h.2.symm : e = _ ∧ w = w'))
      have hmax := (Tryz.slices_Max_int rb 0 xs.length rc xs w (by omega) (Nat.le_refl _) (by omega) xc).mono (fun e w' h => (And.intro h.1 h.2.symm : e = _ ∧ w = w'))
      rw [List.take_length] at hmin hmax
      simp only [Row.v] at gk
      rw [xk'] at hmin hmax gk
      have hn1 : ¬ (n : Int) < 1 := by omega
      have hn2 : ¬ (6 : Int) < (n : Int) := by omega
      have hn00 : (0 : Int) < (n : Int) := by omega
      have ar : areB xs = (!decide (Lib.minOf xs < 0) && !decide (20 < Lib.maxOf xs)) := rfl
      have e2 : (areB xs && (rows.drop (k + 1)).all (fun r => areB r.xs)) = rows.all (fun r => areB r.xs) := e1
      generalize Lib.minOf xs = mn at hmin ar
      generalize Lib.maxOf xs = mx at hmax ar
      rw [ar] at e2
      have E1 := Aside0.mk e2
      clear ar e2
      clear xk xk' xc e1
      by_cases t1 : mn < 0
      · have E := Aside0.mk (show rows.all (fun r => areB r.xs) = false by rw [← E1.out]; simp [t1])
        go_wp2_with (first | (go_at_call 156; (with_reducible refine hmin.mono ?_); rintro e w' ⟨rfl, rfl⟩) | (go_at_call 157; (with_reducible refine hmax.mono ?_); rintro e w' ⟨rfl, rfl⟩))
        go_ret
        exact ⟨by rw [E.out]; rfl, rfl⟩
      · by_cases t2 : 20 < mx
        · have E := Aside0.mk (show rows.all (fun r => areB r.xs) = false by rw [← E1.out]; simp [t1, t2])
          go_wp2_with (first | (go_at_call 156; (with_reducible refine hmin.mono ?_); rintro e w' ⟨rfl, rfl⟩) | (go_at_call 157; (with_reducible refine hmax.mono ?_); rintro e w' ⟨rfl, rfl⟩))
          go_ret
          exact ⟨by rw [E.out]; rfl, rfl⟩
        · have E := Aside0.mk (show (rows.drop (k + 1)).all (fun r => areB r.xs) = rows.all (fun r => areB r.xs) by rw [← E1.out]; simp [t1, t2])
          go_wp2_with (first | (go_at_call 156; (with_reducible refine hmin.mono ?_); rintro e w' ⟨rfl, rfl⟩) | (go_at_call 157; (with_reducible refine hmax.mono ?_); rintro e w' ⟨rfl, rfl⟩))
          go_roundg (rows.length - (k + 1))
          case measure => have := hgk.out; omega
          case rel => exact ⟨k + 1, by go_num, by omega, ⟨Nat.le_refl _⟩, E, rfl⟩
    · have hltz : ¬ (k : Int) < (rows.length : Int) := by omega
      have E := Aside0.mk (show rows.all (fun r => areB r.xs) = true by rw [← HE.out, List.drop_eq_nil_of_le hge]; rfl)
      go_wp2
      go_ret
      exact ⟨by rw [E.out]; rfl, rfl⟩
end Go.Proofs.YtccnfbjdpgmlhaaGreatDoor
