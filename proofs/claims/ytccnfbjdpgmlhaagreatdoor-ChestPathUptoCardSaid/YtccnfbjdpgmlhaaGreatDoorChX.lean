/- Walks of the chest: Do. Walks of the chest: Move. -/
import Derived.Test.YtccnfbjdpgmlhaaGreatDoorChV
import Derived.Test.YtccnfbjdpgmlhaaGreatDoorChMath2
namespace Go.Proofs.YtccnfbjdpgmlhaaGreatDoor
open Go.RowKit Go.Proofs.YtccnfbjdpgmlhaaGreatDoorW.PrintWords Go.Proofs.YtccnfbjdpgmlhaaGreatDoorW.PrintLast Go.Proofs.YtccnfbjdpgmlhaaGreatDoorW.PrintMore
set_option linter.unusedVariables false
set_option linter.unusedSimpArgs false

/-- the slice of pages was written where it lay, or anew. -/
def NewRow (w : World) (v v' : Value) : Prop := v'.ownBlock = v.ownBlock ∨ ∃ b, v'.ownBlock = some b ∧ w.heap.size ≤ b
def ChestDoR (c : Nat) (v : Value) (P : List Page) (a base : Nat) (line : ByteArray) (w : World) (e : Ending) (w' : World) : Prop :=
  ∃ q v', e = .returned (.tuple #[.string (doP doF P a line q).2.2.1, .int .i64 (doP doF P a line q).2.2.2]) ∧ ChestAt w' base c v' (doP doF P a line q).1 (doP doF P a line q).2.1 ∧ Left w base c v w' ∧ NewRow w v v'
theorem ChestDoR.mk {c : Nat} {v v' : Value} {P P' : List Page} {a a' base q : Nat} {line r : ByteArray} {k : Int} {w w' : World} {e : Ending} (h : doP doF P a line q = (P', a', r, k)) (he : e = .returned (.tuple #[.string r, .int .i64 k])) (hC : ChestAt w' base c v' P' a') (hL : Left w base c v w') (hv : NewRow w v v') : ChestDoR c v P a base line w e w' := by
  refine ⟨q, v', ?_, ?_, hL, hv⟩
  · rw [h]; exact he
  · rw [h]; exact hC
set_option maxRecDepth 100000 in
set_option maxHeartbeats 4000000 in
theorem Do_calls (n c : Nat) (v : Value) (P : List Page) (a base : Nat) (line : ByteArray) (w : World) (hE : Env n w) (hnw : n ≤ w.heap.size) (h : ChestAt w base c v P a) (hO : Ok P a) (hG : ∀ p ∈ P, Good p.st) (hbs : base ≤ w.heap.size) (hl : line.size ≤ 1048576) :
    Calls Tryz.prog 9 #[.pointer (some ⟨c, 0, none⟩), .string line] w (ChestDoR c v P a base line w) := by
  have hat := hO.at_
  have hn := none_calls c v P a base w h (by omega)
  have hnow := now_calls c v P a base w h hat
  have hmem : P.getD a default ∈ P := getD_mem hat
  have hdo := Aside0.mk (fun (W : World) (hW : Below w.heap.size w W) => do_calls n (P.getD a default).ptr base (stP P a) line W (hE.below hW hnw) (Nat.le_trans hnw hW.size) hl ((h.below hW).2.2.2 _ hmem) (hG _ hmem) (Nat.le_trans hbs hW.size))
  unfold DoR at hdo
  have hch := Aside0.mk (fun (W : World) (hW : Below w.heap.size w W) => child_calls c v P a base a line W (h.below hW) hO.most)
  have HA := Aside0.mk (And.intro h (And.intro hO hbs))
  obtain ⟨A, cap, hv, hlc, hC, h0, h1, q0, q1⟩ := h.cells
  have hcl : c < w.heap.size := World.block_lt_of_cell? w _ h0
  have H0 := Aside0.mk h0
  have H1 := Aside0.mk h1
  have F0 := Aside0.mk q0
  have F1 := Aside0.mk q1
  have hcp : ∀ k : Int, childP P a line = k → idxT (childB a line) (P.map Page.pg) 0 = k := fun k hk => hk
  subst hv
  clear h hE hO hG hbs hC h0 h1 q0 q1 hmem
  have DD := Aside0.mk (fun q : Nat => (show doP doF P a line q = if (doF (stP P a) line).2.2 ≠ 0 then (P, a, ByteArray.empty, (doF (stP P a) line).2.2)
    else if 0 ≤ childP P a line then (P, (childP P a line).toNat, (doF (stP P a) line).2.1, 0)
    else if P.length = 200 then (P, a, ByteArray.empty, 7)
    else (P ++ [⟨line, a, q, (doF (stP P a) line).1⟩], P.length, (doF (stP P a) line).2.1, 0) from rfl))
  have hchp : idxT (childB a line) (P.map Page.pg) 0 = childP P a line := rfl
  rw [hchp] at hch
  clear hchp hcp
  generalize (P.getD a default).ptr = pt at hnow hdo
  generalize doF (stP P a) line = r at hdo DD
  obtain ⟨s2, rw2, cd⟩ := r
  have hcpl : childP P a line < P.length := by
    rcases childP_cases P a line with ⟨k, hk, he, _⟩ | ⟨he, _⟩ <;> omega
  generalize childP P a line = t at hch DD hcpl
  simp only at hdo DD
  by_cases t1 : cd = 0
  · subst t1
    by_cases t2 : 0 ≤ t
    · obtain ⟨k, rfl⟩ : ∃ k : Nat, t = (k : Int) := ⟨t.toNat, by omega⟩
      have E := Aside0.mk (show doP doF P a line 0 = (P, k, rw2, 0) by rw [DD.out, if_neg (by simp), if_pos t2, Int.toNat_natCast])
      go_enter Tryz.func9, Tryz.ntmps9
      go_wp2_with (first
      | (go_at_call 28; (with_reducible refine hn.mono ?_); rintro e w' ⟨rfl, rfl⟩)
      | (go_at_call 29; (with_reducible refine hnow.mono ?_); rintro e w1 ⟨rfl, hb1⟩; have HB1 := Aside0.mk hb1; clear hb1)
      | (go_at_call 30; (with_reducible refine (hdo.out _ HB1.out).mono ?_); rintro e w2 ⟨⟨b2, rfl, hS2⟩, hb2⟩; have HS2 := Aside0.mk hS2; have HB2 := Aside0.mk (HB1.out.trans (hb2.mono HB1.out.size)); have y0 := (HB2.out.cell (p := ⟨c, 0, none⟩) hcl).trans H0.out; have y1 := (HB2.out.cell (p := ⟨c, 1, none⟩) hcl).trans H1.out; have q0 := (HB2.out.frozen (p := ⟨c, 0, none⟩) hcl).trans F0.out; have q1 := (HB2.out.frozen (p := ⟨c, 1, none⟩) hcl).trans F1.out; clear hb2 hS2)
      | (go_at_call 31; (with_reducible refine (hch.out _ HB2.out).mono ?_); rintro e w3 ⟨rfl, hb3⟩; have HS3 := Aside0.mk (HS2.out.below hb3); have HB3 := Aside0.mk (HB2.out.trans (hb3.mono HB2.out.size)); have z0 := (HB3.out.cell (p := ⟨c, 0, none⟩) hcl).trans H0.out; have z1 := (HB3.out.cell (p := ⟨c, 1, none⟩) hcl).trans H1.out; have f0 := (HB3.out.frozen (p := ⟨c, 0, none⟩) hcl).trans F0.out; have f1 := (HB3.out.frozen (p := ⟨c, 1, none⟩) hcl).trans F1.out; clear hb3))
      go_ret2
      exact ChestDoR.mk E.out rfl ((HA.out.1.below HB3.out).setAt k) ⟨(HB3.out.mono HA.out.2.2).setCell (p := ⟨c, 1, none⟩) HA.out.1.2.1 _, (KeepBut.of_below HB3.out _ _).set_ 1 _⟩ (.inl rfl)
    · by_cases t3 : P.length = 200
      · have E := Aside0.mk (show doP doF P a line 0 = (P, a, ByteArray.empty, 7) by rw [DD.out, if_neg (by simp), if_neg t2, if_pos t3])
        have t3b : ((P.length : Int) == 200) = true := by simp; omega
        go_enter Tryz.func9, Tryz.ntmps9
        go_wp2_with (first
      | (go_at_call 28; (with_reducible refine hn.mono ?_); rintro e w' ⟨rfl, rfl⟩)
      | (go_at_call 29; (with_reducible refine hnow.mono ?_); rintro e w1 ⟨rfl, hb1⟩; have HB1 := Aside0.mk hb1; clear hb1)
      | (go_at_call 30; (with_reducible refine (hdo.out _ HB1.out).mono ?_); rintro e w2 ⟨⟨b2, rfl, hS2⟩, hb2⟩; have HS2 := Aside0.mk hS2; have HB2 := Aside0.mk (HB1.out.trans (hb2.mono HB1.out.size)); have y0 := (HB2.out.cell (p := ⟨c, 0, none⟩) hcl).trans H0.out; have y1 := (HB2.out.cell (p := ⟨c, 1, none⟩) hcl).trans H1.out; have q0 := (HB2.out.frozen (p := ⟨c, 0, none⟩) hcl).trans F0.out; have q1 := (HB2.out.frozen (p := ⟨c, 1, none⟩) hcl).trans F1.out; clear hb2 hS2)
      | (go_at_call 31; (with_reducible refine (hch.out _ HB2.out).mono ?_); rintro e w3 ⟨rfl, hb3⟩; have HS3 := Aside0.mk (HS2.out.below hb3); have HB3 := Aside0.mk (HB2.out.trans (hb3.mono HB2.out.size)); have z0 := (HB3.out.cell (p := ⟨c, 0, none⟩) hcl).trans H0.out; have z1 := (HB3.out.cell (p := ⟨c, 1, none⟩) hcl).trans H1.out; have f0 := (HB3.out.frozen (p := ⟨c, 0, none⟩) hcl).trans F0.out; have f1 := (HB3.out.frozen (p := ⟨c, 1, none⟩) hcl).trans F1.out; clear hb3))
        go_ret2
        exact ChestDoR.mk E.out rfl (HA.out.1.below HB3.out) (Left.of_below HB3.out HA.out.2.2) (.inl rfl)
      · have E := Aside0.mk (fun q => (show doP doF P a line q = (P ++ [⟨line, a, q, s2⟩], P.length, rw2, 0) by rw [DD.out, if_neg (by simp), if_neg t2, if_neg t3]))
        have t3b : ((P.length : Int) == 200) = false := by simp; omega
        have hm := HA.out.2.1.most
        have HLN := Aside0.mk (fun q => (show (P.map Page.pg ++ [(⟨line, a, q⟩ : Pg)]).length = P.length + 1 by simp))
        have HMP := Aside0.mk (fun q => (show (P ++ [(⟨line, a, q, s2⟩ : Page)]).map Page.pg = P.map Page.pg ++ [⟨line, a, q⟩] by simp [Page.pg]))
        go_enter Tryz.func9, Tryz.ntmps9
        go_wp2_with (first
      | (go_at_call 28; (with_reducible refine hn.mono ?_); rintro e w' ⟨rfl, rfl⟩)
      | (go_at_call 29; (with_reducible refine hnow.mono ?_); rintro e w1 ⟨rfl, hb1⟩; have HB1 := Aside0.mk hb1; clear hb1)
      | (go_at_call 30; (with_reducible refine (hdo.out _ HB1.out).mono ?_); rintro e w2 ⟨⟨b2, rfl, hS2⟩, hb2⟩; have HS2 := Aside0.mk hS2; have HB2 := Aside0.mk (HB1.out.trans (hb2.mono HB1.out.size)); have y0 := (HB2.out.cell (p := ⟨c, 0, none⟩) hcl).trans H0.out; have y1 := (HB2.out.cell (p := ⟨c, 1, none⟩) hcl).trans H1.out; have q0 := (HB2.out.frozen (p := ⟨c, 0, none⟩) hcl).trans F0.out; have q1 := (HB2.out.frozen (p := ⟨c, 1, none⟩) hcl).trans F1.out; clear hb2 hS2)
      | (go_at_call 31; (with_reducible refine (hch.out _ HB2.out).mono ?_); rintro e w3 ⟨rfl, hb3⟩; have HS3 := Aside0.mk (HS2.out.below hb3); have HB3 := Aside0.mk (HB2.out.trans (hb3.mono HB2.out.size)); have z0 := (HB3.out.cell (p := ⟨c, 0, none⟩) hcl).trans H0.out; have z1 := (HB3.out.cell (p := ⟨c, 1, none⟩) hcl).trans H1.out; have f0 := (HB3.out.frozen (p := ⟨c, 0, none⟩) hcl).trans F0.out; have f1 := (HB3.out.frozen (p := ⟨c, 1, none⟩) hcl).trans F1.out; clear hb3))
        have HR3 := Aside0.mk (HA.out.1.below HB3.out).2.2.1
        have HBK := Aside0.mk (HA.out.1.below HB3.out).1
        have kk0 : ∀ o, (w3.alloc o).cell? ⟨c, 0, none⟩ = some (.slice A P.length cap) := fun o => ((below_alloc (Below.refl w3.heap.size w3) o).cell (World.block_lt_of_cell? w3 _ z0)).trans z0
        have kk1 : ∀ o, (w3.alloc o).cell? ⟨c, 1, none⟩ = some (.int .i64 a) := fun o => ((below_alloc (Below.refl w3.heap.size w3) o).cell (World.block_lt_of_cell? w3 _ z1)).trans z1
        go_region_law (first
          | (refine Kd.R_append_step kPg (w0 := w) base rfl (.tmp 39) (.tmp 47) 23 65 (.agg #[.string ByteArray.empty, .int .i64 0, .pointer none]) 32 rfl Tryz.underlying23 infoPage rfl (by decide) (by omega) (.slice A P.length cap) (P.map Page.pg) ⟨line, a, b2⟩ [.string line, .int .i64 a, .pointer (some ⟨b2, 0, none⟩)] Tt (fun _ => False) rfl (by first | (go_simp; done) | (go_simp; rfl)) (kPg_mkM _ _ _ ⟨line, a, b2⟩) (fun _ hk => hk.elim) (fun _ _ => trivial) (Kd.R_drew HR3.out) (below_drew (HB3.out.mono HA.out.2.2)) (Nat.le_trans HA.out.2.2 HB3.out.size) (by rw [List.length_map]; omega) ?_; intro v1 w4 hR4 hb4 hg4 hat4; obtain ⟨A2, k2, rfl⟩ := Kd.R_slice hR4; rw [HLN.out] at hR4 hat4; have HR4 := Aside0.mk hR4; have HB4 := Aside0.mk hb4; have HG4 := Aside0.mk hg4; have HAT4 := Aside0.mk hat4; have m4 := blk_grown (blk_drew HBK.out) hg4 (Kd.R_ne (Kd.R_drew HR3.out) (blk_drew HBK.out) (by decide)); have M4 := Aside0.mk m4; have x0 := (blk_cell m4 0).trans rfl; have x1 := (blk_cell m4 1).trans rfl; have e0 := blk_frozen m4 0; have e1 := blk_frozen m4 1; clear hR4 hb4 hg4 hat4 m4))
        all_goals go_wp2
        all_goals go_ret2
        all_goals
          have hR5 := HR4.out
          have hput := ChestAt.put (w := w3.drew) (p := ⟨line, a, b2, s2⟩) ((HA.out.1.below HB3.out).below (below_drew (Below.refl _ _))) HG4.out (by rw [HMP.out]; exact hR5) (HS3.out.below (below_drew (Below.refl _ _)))
          exact ChestDoR.mk (E.out b2) rfl (hput.setAt P.length) ⟨(HB4.out.setCell (p := ⟨c, 0, none⟩) HA.out.1.2.1 _).setCell (p := ⟨c, 1, none⟩) HA.out.1.2.1 _, (((keep_drew (KeepBut.of_below HB3.out c _)).trans (KeepBut.of_grown HG4.out c) (.inl rfl)).set_ 0 _).set_ 1 _⟩
            (HAT4.out.imp id (fun ⟨b, hb, hb2⟩ => ⟨b, hb, Nat.le_trans HB3.out.size hb2⟩))
  · have E := Aside0.mk (show doP doF P a line 0 = (P, a, ByteArray.empty, cd) by rw [DD.out, if_pos t1])
    have t1b : (cd != 0) = true := by simp [t1]
    go_enter Tryz.func9, Tryz.ntmps9
    go_wp2_with (first
      | (go_at_call 28; (with_reducible refine hn.mono ?_); rintro e w' ⟨rfl, rfl⟩)
      | (go_at_call 29; (with_reducible refine hnow.mono ?_); rintro e w1 ⟨rfl, hb1⟩; have HB1 := Aside0.mk hb1; clear hb1)
      | (go_at_call 30; (with_reducible refine (hdo.out _ HB1.out).mono ?_); rintro e w2 ⟨⟨b2, rfl, hS2⟩, hb2⟩; have HS2 := Aside0.mk hS2; have HB2 := Aside0.mk (HB1.out.trans (hb2.mono HB1.out.size)); have y0 := (HB2.out.cell (p := ⟨c, 0, none⟩) hcl).trans H0.out; have y1 := (HB2.out.cell (p := ⟨c, 1, none⟩) hcl).trans H1.out; have q0 := (HB2.out.frozen (p := ⟨c, 0, none⟩) hcl).trans F0.out; have q1 := (HB2.out.frozen (p := ⟨c, 1, none⟩) hcl).trans F1.out; clear hb2 hS2))
    go_ret2
    exact ChestDoR.mk E.out rfl (HA.out.1.below HB2.out) (Left.of_below HB2.out HA.out.2.2) (.inl rfl)
end Go.Proofs.YtccnfbjdpgmlhaaGreatDoor

namespace Go.Proofs.YtccnfbjdpgmlhaaGreatDoor
open Go.RowKit Go.Proofs.YtccnfbjdpgmlhaaGreatDoorW.PrintWords Go.Proofs.YtccnfbjdpgmlhaaGreatDoorW.PrintLast Go.Proofs.YtccnfbjdpgmlhaaGreatDoorW.PrintMore
set_option linter.unusedVariables false
set_option linter.unusedSimpArgs false

theorem lineB_size {s : ByteArray} (h : lineB s = true) : s.size ≤ 60 := by
  unfold lineB at h
  exact of_decide_eq_true (Bool.and_eq_true_iff.mp h).1
/-- a change that is made is a line. -/
theorem doG_zero {s : St} {wl : List UInt8} {r : Option (List ByteArray × List Int)} {act : List ByteArray → List Int → St × Int} (h : (doG s wl r act).2.2 = 0) : ∃ ns ds, r = some (ns, ds) := by
  cases r with
  | none => exact absurd h (by show (3 : Int) ≠ 0; decide)
  | some p => exact ⟨p.1, p.2, rfl⟩
theorem doF_line {s : St} {l : ByteArray} (h : (doF s l).2.2 = 0) : lineB l = true := by
  unfold doF at h
  split at h
  · obtain ⟨ns, ds, hr⟩ := doG_zero h; exact (readF_counts hr).2.2.2.2
  · split at h
    · obtain ⟨ns, ds, hr⟩ := doG_zero h; exact (readF_counts hr).2.2.2.2
    · split at h
      · obtain ⟨ns, ds, hr⟩ := doG_zero h; exact (readF_counts hr).2.2.2.2
      · split at h
        · obtain ⟨ns, ds, hr⟩ := doG_zero h; exact (readF_counts hr).2.2.2.2
        · split at h
          · obtain ⟨ns, ds, hr⟩ := doG_zero h; exact (readF_counts hr).2.2.2.2
          · exact absurd h (by show (3 : Int) ≠ 0; decide)
theorem wordL_nil {l : ByteArray} (h : l.toList = []) : wordL l = [] := by
  rw [Lib.toList_data] at h
  unfold wordL Lib.cut
  rw [h]
  split <;> simp
theorem doF_ne : ∀ (s : St) (l : ByteArray), (doF s l).2.2 = 0 → l.toList ≠ [] := by
  intro s l h hl
  have hw := wordL_nil hl
  unfold doF at h
  rw [hw] at h
  simp only [kLeafW, kGiveW, kOrderW, kTasteW, kOfferW] at h
  exact absurd h (by simp)
/-- what a chest is, all along. -/
structure Inv (P : List Page) (a : Nat) : Prop where
  book : Book doF P
  good : ∀ p ∈ P, Good p.st
  at_ : a < P.length
theorem Inv.ok {P : List Page} {a : Nat} (h : Inv P a) : Ok P a := h.book.ok h.at_
theorem Inv.go {P : List Page} {a b : Nat} (h : Inv P a) (hb : b < P.length) : Inv P b := ⟨h.book, h.good, hb⟩
theorem Inv.do_ {P : List Page} {a : Nat} (h : Inv P a) (line : ByteArray) (q : Nat) : Inv (doP doF P a line q).1 (doP doF P a line q).2.1 := by
  have hb := h.book.do_ doF_ne h.at_ line q
  refine ⟨hb.1, fun p hp => ?_, hb.2⟩
  rcases doP_cases doF doF_ne h.book h.at_ line q with ⟨e, _⟩ | ⟨_, k, hk, _, e, _, _⟩ | ⟨h0, hl, hno, e⟩
  · rw [e] at hp; exact h.good p hp
  · rw [e] at hp; exact h.good p hp
  · rw [e] at hp
    rcases List.mem_append.mp hp with h1 | h1
    · exact h.good p h1
    · rw [List.mem_singleton.mp h1]
      exact doF_good (h.good _ (getD_mem h.at_)) line
theorem Inv.new (b : Nat) : Inv [page0 b] 0 := by
  refine ⟨⟨fun i h1 h2 => ?_, by simp, by simp, ⟨rfl, rfl, rfl⟩, fun i h1 h2 => ?_, fun i j h1 h2 h3 h4 => ?_⟩, fun p hp => ?_, by simp⟩
  · simp at h2; omega
  · simp at h2; omega
  · simp at h3; omega
  · rw [List.mem_singleton.mp hp]; exact Good.zero
/-- the pages that were there are there. -/
def Grows (P P' : List Page) : Prop := ∃ t, P' = P ++ t
theorem Grows.refl (P : List Page) : Grows P P := ⟨[], by simp⟩
theorem Grows.trans {P P' P'' : List Page} (h : Grows P P') (k : Grows P' P'') : Grows P P'' := by
  obtain ⟨t, rfl⟩ := h
  obtain ⟨u, rfl⟩ := k
  exact ⟨t ++ u, by simp⟩
theorem Grows.len {P P' : List Page} (h : Grows P P') : P.length ≤ P'.length := by
  obtain ⟨t, rfl⟩ := h; simp
theorem Grows.getD {P P' : List Page} (h : Grows P P') {k : Nat} (hk : k < P.length) : P'.getD k default = P.getD k default := by
  obtain ⟨t, rfl⟩ := h
  rw [List.getD_eq_getElem?_getD, List.getD_eq_getElem?_getD, List.getElem?_append_left hk]
theorem Inv.grows {P : List Page} {a : Nat} (h : Inv P a) (line : ByteArray) (q : Nat) : Grows P (doP doF P a line q).1 := by
  rcases doP_cases doF doF_ne h.book h.at_ line q with ⟨e, _⟩ | ⟨_, k, hk, _, e, _, _⟩ | ⟨h0, hl, hno, e⟩
  · rw [e]; exact Grows.refl _
  · rw [e]; exact Grows.refl _
  · rw [e]; exact ⟨_, rfl⟩
/-- the changes of some pages done one after the other. -/
inductive Moves : List Page → Nat → List Nat → List Page → Nat → Nat → Prop
  | nil (P : List Page) (a : Nat) : Moves P a [] P a 0
  | snoc {P : List Page} {a : Nat} {l : List Nat} {P' : List Page} {a' : Nat} {n : Nat} (p q : Nat) (h : Moves P a l P' a' n) : Moves P a (l ++ [p]) (doP doF P' a' (chg P' p) q).1 (doP doF P' a' (chg P' p) q).2.1 (if (doP doF P' a' (chg P' p) q).2.2.2 = 0 then n + 1 else n)
/-- a chest in memory beside what calls on it leave. -/
theorem Left.trans {w w1 w2 : World} {base c : Nat} {v v1 : Value} (h : Left w base c v w1) (k : Left w1 base c v1 w2) (hv : NewRow w v v1) : Left w base c v w2 :=
  ⟨h.1.trans k.1, h.2.trans k.2 hv⟩
theorem NewRow.refl (w : World) (v : Value) : NewRow w v v := .inl rfl
theorem NewRow.trans {w w1 : World} {v v1 v2 : Value} (h : NewRow w v v1) (k : NewRow w1 v1 v2) (hs : w.heap.size ≤ w1.heap.size) : NewRow w v v2 := by
  rcases k with e | ⟨b, hb, hb2⟩
  · rcases h with e2 | ⟨b, hb, hb2⟩
    · exact .inl (e.trans e2)
    · exact .inr ⟨b, e.trans hb, hb2⟩
  · exact .inr ⟨b, hb, by omega⟩
theorem NewRow.older {w w1 : World} {v v1 : Value} (h : NewRow w1 v v1) (hs : w.heap.size ≤ w1.heap.size) : NewRow w v v1 := h.imp id (fun ⟨b, hb, hb2⟩ => ⟨b, hb, by omega⟩)
theorem chg_size {P : List Page} {a : Nat} (h : Inv P a) {p : Nat} (hp : p < P.length) : (chg P p).size ≤ 60 := by
  rcases Nat.eq_zero_or_pos p with h0 | h0
  · subst h0; rw [h.book.root.2.1]; decide
  · exact lineB_size (doF_line (h.book.made p h0 hp).2.2)

def MoveR (c : Nat) (v : Value) (P : List Page) (a base : Nat) (x : Int) (w : World) (e : Ending) (w' : World) : Prop :=
  if inP P.length x = true then ∃ P' a' k v', e = .returned (.tuple #[.int .i64 (k : Nat), .int .i64 0]) ∧ Moves P a (forkP P a x.toNat).2 P' a' k ∧ ChestAt w' base c v' P' a' ∧ Left w base c v w' ∧ NewRow w v v' ∧ Inv P' a' ∧ Grows P P'
  else e = .returned (.tuple #[.int .i64 0, .int .i64 2]) ∧ ChestAt w' base c v P a ∧ Left w base c v w'
theorem forkF_mem (xs : List Nat) : ∀ ys a p, p ∈ (forkF xs ys a).2 → p ∈ ys := by
  induction xs with
  | nil => intro ys a p h; cases ys <;> exact h
  | cons x xs ih =>
    intro ys a p h
    cases ys with
    | nil => exact h
    | cons y ys =>
      have h2 : p ∈ (if x = y then forkF xs ys x else (a, y :: ys)).2 := h
      split at h2
      · exact List.mem_cons_of_mem _ (ih _ _ _ h2)
      · exact h2
/-- what is read of the rest of a way stays read while the chest changes. -/
theorem RestR.kept {c : Nat} {w w1 W : World} {v : Value} {way : List Nat} {A2 B2 : Option Addr} {c2 d2 : Nat} {ys : List Nat} (h : RestR w.heap.size w1 way A2 c2 B2 d2 ys) (hk : KeepBut w1 W c v.ownBlock) (hc : c < w.heap.size) (hv : ∀ k, v.ownBlock = some k → k < w.heap.size) : ReadsN W B2 d2 ys := by
  refine h.2.2 W ?_
  have hR : Kd.R (Kd.int .i64) 3 W w.heap.size Tt (.slice A2 way.length c2) (toI way) := by
    refine Kd.R_mono (Kd.R_move (Kd.R_bound h.2.1) (fun k hk2 => ?_)) (fun _ _ => trivial)
    obtain ⟨_, h1, h2, _⟩ := hk2
    exact hk.2 k h2 (by omega) (fun e => by have := hv k e.symm; omega)
  exact readsN_of_R hR
theorem forkF_len (xs : List Nat) : ∀ ys a, (forkF xs ys a).2.length ≤ ys.length := by
  induction xs with
  | nil => intro ys a; cases ys <;> exact Nat.le_refl _
  | cons x xs ih =>
    intro ys a
    cases ys with
    | nil => exact Nat.le_refl _
    | cons y ys =>
      show (if x = y then forkF xs ys x else (a, y :: ys)).2.length ≤ _
      split
      · exact Nat.le_trans (ih _ _) (by simp)
      · exact Nat.le_refl _
theorem doP_rc (F : St → ByteArray → St × ByteArray × Int) (P : List Page) (a : Nat) (line : ByteArray) (q : Nat) : (doP F P a line q).2.2 = (doP F P a line 0).2.2 := by
  unfold doP
  split
  · rfl
  · split
    · rfl
    · split <;> rfl
/-- what a call on a chest leaves, its reply and its code told ahead. -/
def DoneR (c : Nat) (v : Value) (P : List Page) (a base : Nat) (line r : ByteArray) (k : Int) (w : World) (e : Ending) (w' : World) : Prop :=
  e = .returned (.tuple #[.string r, .int .i64 k]) ∧ ∃ q v', ChestAt w' base c v' (doP doF P a line q).1 (doP doF P a line q).2.1 ∧ Left w base c v w' ∧ NewRow w v v'
theorem Do_calls2 (n c : Nat) (v : Value) (P : List Page) (a base : Nat) (line : ByteArray) (w : World) (hE : Env n w) (hnw : n ≤ w.heap.size) (h : ChestAt w base c v P a) (hI : Inv P a) (hbs : base ≤ w.heap.size) (hl : line.size ≤ 1048576) :
    Calls Tryz.prog 9 #[.pointer (some ⟨c, 0, none⟩), .string line] w (DoneR c v P a base line (doP doF P a line 0).2.2.1 (doP doF P a line 0).2.2.2 w) :=
  (Do_calls n c v P a base line w hE hnw h hI.ok hI.good hbs hl).mono (fun e w' ⟨q, v', he, hC, hL, hN⟩ => ⟨by rw [he, doP_rc doF P a line q], q, v', hC, hL, hN⟩)
set_option maxRecDepth 100000 in
set_option maxHeartbeats 4000000 in
theorem Move_calls (n c : Nat) (v : Value) (P : List Page) (a base : Nat) (x : Int) (w : World) (hE : Env n w) (hn : n ≤ base) (h : ChestAt w base c v P a) (hI : Inv P a) (hbs : base ≤ w.heap.size) :
    Calls Tryz.prog 12 #[.pointer (some ⟨c, 0, none⟩), .int .i64 x] w (MoveR c v P a base x w) := by
  have hat := hI.at_
  have hnn := none_calls c v P a base w h (by omega)
  have hb1 : Below w.heap.size w (w.alloc (.cells #[.int .i64 x] 3)) := (Below.refl _ _).alloc (Nat.le_refl _) _
  have hh := has_one c v P a base x w.heap.size (w.alloc (.cells #[.int .i64 x] 3)) (h.below hb1) (by simp)
  have H := Aside0.mk (And.intro h (And.intro hI hbs))
  have HB := Aside0.mk hb1
  have HE := Aside0.mk hE
  obtain ⟨A, cap, hv, hlc, hC, h0, h1, f0, f1⟩ := h.cells
  have hcl : c < w.heap.size := World.block_lt_of_cell? w _ h0
  have H1 := Aside0.mk h1
  have hvo : ∀ k, v.ownBlock = some k → k < w.heap.size := fun k hk => by
    obtain ⟨inner, ho⟩ := Kd.R_own h.2.2.1
    obtain ⟨cells, hcs⟩ := own_typed ho k hk
    exact blk_lt hcs
  have HVO := Aside0.mk hvo
  clear h hC hb1 hE hI hbs h0 f0 f1 hvo
  cases hi : inP P.length x with
  | false =>
    rw [hi] at hh
    have EM := Aside0.mk (fun (e : Ending) (w' : World) => (show MoveR c v P a base x w e w' = (e = .returned (.tuple #[.int .i64 0, .int .i64 2]) ∧ ChestAt w' base c v P a ∧ Left w base c v w') by unfold MoveR; rw [hi]; simp))
    clear hi h1 hv
    go_enter Tryz.func12, Tryz.ntmps12
    go_wp2_with (first | (go_at_call 28; (with_reducible refine hnn.mono ?_); rintro e w' ⟨rfl, rfl⟩) | (go_at_call 33; (with_reducible refine hh.mono ?_); rintro e w1 ⟨rfl, hb'⟩; have hb2 := Aside0.mk (HB.out.trans (hb'.mono (by simp)))))
    go_ret2
    rw [EM.out]
    exact ⟨rfl, H.out.1.below hb2.out, Left.of_below hb2.out H.out.2.2⟩
  | true =>
    obtain ⟨m, rfl, hm⟩ := inP_nat hi
    rw [hi] at hh
    have EM := Aside0.mk (fun (e : Ending) (w' : World) => (show MoveR c v P a base (m : Int) w e w' = (∃ P' a' k v', e = .returned (.tuple #[.int .i64 (k : Nat), .int .i64 0]) ∧ Moves P a (forkP P a m).2 P' a' k ∧ ChestAt w' base c v' P' a' ∧ Left w base c v w' ∧ NewRow w v v' ∧ Inv P' a' ∧ Grows P P') by unfold MoveR; rw [hi, Int.toNat_natCast]; simp))
    have HF := Aside0.mk (fun (W : World) (hb : Below w.heap.size w W) => fork_calls2 c v P a base a m W (H.out.1.below hb) H.out.2.1.ok hat hm)
    have HML := Aside0.mk (fun p (hp : p ∈ (forkP P a m).2) => (wayP_in H.out.2.1.book.tree hm (forkF_mem _ _ _ _ hp)))
    have hrl : (forkP P a m).2.length ≤ 200 := by
      have h1 := forkF_len (wayP P a) (wayP P m) 0
      have h2 := up_length P H.out.2.1.book.tree m hm
      have h3 := H.out.2.1.book.most
      have h4 : (wayP P m).length = (up P m).length := by simp [wayP]
      unfold forkP; omega
    unfold ForkR2 at HF
    clear hi hv
    generalize (forkP P a m).2 = rest at HF HML EM hrl
    generalize (forkP P a m).1 = fk at HF
    go_enter Tryz.func12, Tryz.ntmps12
    go_wp2_with (first
      | (go_at_call 28; (with_reducible refine hnn.mono ?_); rintro e w' ⟨rfl, rfl⟩)
      | (go_at_call 33; (with_reducible refine hh.mono ?_); rintro e w1 ⟨rfl, hb'⟩; have hb2 := Aside0.mk (HB.out.trans (hb'.mono (by simp))); have y1 := (hb2.out.cell (p := ⟨c, 1, none⟩) hcl).trans H1.out)
      | (go_at_call 34; (with_reducible refine (HF.out _ hb2.out).mono ?_); rintro e w2 ⟨B2, d2, rfl, ⟨A2, c2, hRR⟩, hb3⟩; have HRR := Aside0.mk ((show RestR w.heap.size w2 (wayP P m) A2 c2 B2 d2 rest from ⟨hRR.1, Kd.R_lower hRR.2.1 hb2.out.size, hRR.2.2⟩)); have HB3 := Aside0.mk (hb2.out.trans (hb3.mono hb2.out.size)); clear hb3 hRR))
    clear y1
    go_loopg [8, 34] rest.length (fun gg s8 s34 W => ∃ (k : Nat) (P' : List Page) (a' d : Nat) (v' : Value), s34 = .int .i64 k ∧ s8 = .int .i64 d ∧ k ≤ rest.length ∧ d ≤ k ∧ Aside0 (rest.length - k ≤ gg) ∧ Aside0 (Moves P a (rest.take k) P' a' d) ∧ Aside0 (ChestAt W base c v' P' a' ∧ Left w base c v W ∧ KeepBut w2 W c v.ownBlock ∧ NewRow w2 v v' ∧ Inv P' a' ∧ Grows P P'))
    case atStart => exact ⟨0, P, a, 0, v, rfl, rfl, Nat.zero_le _, Nat.zero_le _, ⟨by omega⟩, ⟨by rw [List.take_zero]; exact Moves.nil P a⟩, ⟨H.out.1.below HB3.out, Left.of_below HB3.out H.out.2.2, KeepBut.refl _ _ _, NewRow.refl _ _, H.out.2.1, Grows.refl _⟩⟩
    case round =>
      obtain ⟨k, P', a', d, v', rfl, rfl, hk, hdk, hgk, HM, HS⟩ := hrel
      rcases Nat.lt_or_ge k rest.length with hlt | hge
      · have hltz : (k : Int) < (rest.length : Int) := by omega
        have hk0 : (0 : Int) ≤ (k : Int) := by omega
        obtain ⟨adr, rfl, hxr⟩ := (HRR.out.kept HS.out.2.2.1 hcl HVO.out).at_ hlt
        have hpl := (HML.out _ (getD_mem (z := 0) hlt)).2.1
        have hpl2 : rest.getD k 0 < P'.length := Nat.lt_of_lt_of_le hpl HS.out.2.2.2.2.2.len
        have HT := Aside0.mk (take_snoc rest 0 k hlt)
        generalize rest.getD k 0 = p at hxr hpl2 HT
        obtain ⟨A', cap', hv', hlc', hC', g0, g1, q0, q1⟩ := HS.out.1.cells
        obtain ⟨adp, rfl, hx0, hx1, hx2⟩ := page_at hC' p hpl2
        have hpz0 : (0 : Int) ≤ (p : Int) := by omega
        have hpz1 : (p : Int) < (P'.length : Int) := by omega
        have hD := Aside0.mk (Do_calls2 n c v' P' a' base (chg P' p) wr (HE.out.below (HS.out.2.1.1) hn) (Nat.le_trans hn (Nat.le_trans H.out.2.2 HS.out.2.1.2.1)) HS.out.1 HS.out.2.2.2.2.1 (Nat.le_trans H.out.2.2 HS.out.2.1.2.1) (by have := chg_size HS.out.2.2.2.2.1 hpl2; omega))
        have HMS := Aside0.mk (fun q => Moves.snoc p q HM.out)
        have HCD := Aside0.mk (fun q => congrArg Prod.snd (doP_rc doF P' a' (chg P' p) q))
        generalize (doP doF P' a' (chg P' p) 0).2.2.1 = rp at hD
        generalize (doP doF P' a' (chg P' p) 0).2.2.2 = cd at hD HCD
        unfold DoneR at hD
        have HID := Aside0.mk (fun q => And.intro (HS.out.2.2.2.2.1.do_ (chg P' p) q) (HS.out.2.2.2.2.1.grows (chg P' p) q))
        generalize chg P' p = ch at hx0 hD HMS HID HCD
        clear hx1 hx2 hC' g1 q0 q1 hpl
        have HVV := Aside0.mk hv'
        clear hv'
        by_cases hc0 : cd = 0
        · subst hc0
          go_wp2_with (go_at_call 9; (with_reducible refine hD.out.mono ?_); rintro e w4 ⟨rfl, q, v4, hC4, hL4, hN4⟩; have HC4 := Aside0.mk (And.intro hC4 (And.intro hL4 hN4)); clear hC4 hL4 hN4)
          go_roundg (rest.length - (k + 1))
          case measure => have := hgk.out; omega
          case rel => exact ⟨k + 1, _, _, d + 1, v4, by go_num, by go_num, by omega, by omega, ⟨Nat.le_refl _⟩, ⟨by have h1 := HMS.out q; rw [if_pos (HCD.out q)] at h1; rw [HT.out]; exact h1⟩, ⟨HC4.out.1, HS.out.2.1.trans HC4.out.2.1 (HS.out.2.2.2.1.older HB3.out.size), HS.out.2.2.1.trans HC4.out.2.1.2 HS.out.2.2.2.1, HS.out.2.2.2.1.trans HC4.out.2.2 HS.out.2.2.1.1, (HID.out q).1, HS.out.2.2.2.2.2.trans (HID.out q).2⟩⟩
        · have hcb : (cd == 0) = false := by simp [hc0]
          go_wp2_with (go_at_call 9; (with_reducible refine hD.out.mono ?_); rintro e w4 ⟨rfl, q, v4, hC4, hL4, hN4⟩; have HC4 := Aside0.mk (And.intro hC4 (And.intro hL4 hN4)); clear hC4 hL4 hN4)
          go_roundg (rest.length - (k + 1))
          case measure => have := hgk.out; omega
          case rel => exact ⟨k + 1, _, _, d, v4, by go_num, rfl, by omega, by omega, ⟨Nat.le_refl _⟩, ⟨by have h1 := HMS.out q; rw [if_neg (by rw [HCD.out q]; exact hc0)] at h1; rw [HT.out]; exact h1⟩, ⟨HC4.out.1, HS.out.2.1.trans HC4.out.2.1 (HS.out.2.2.2.1.older HB3.out.size), HS.out.2.2.1.trans HC4.out.2.1.2 HS.out.2.2.2.1, HS.out.2.2.2.1.trans HC4.out.2.2 HS.out.2.2.1.1, (HID.out q).1, HS.out.2.2.2.2.2.trans (HID.out q).2⟩⟩
      · have hltz : ¬ (k : Int) < (rest.length : Int) := by omega
        obtain rfl : k = rest.length := by omega
        go_wp2
        go_ret2
        rw [EM.out]
        exact ⟨P', a', d, v', rfl, by have := HM.out; rw [List.take_length] at this; exact this, HS.out.1, HS.out.2.1, HS.out.2.2.2.1.older HB3.out.size, HS.out.2.2.2.2.1, HS.out.2.2.2.2.2⟩
end Go.Proofs.YtccnfbjdpgmlhaaGreatDoor
