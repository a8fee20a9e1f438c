/- Walks of the chest: Bytes. -/
import Derived.Test.YtccnfbjdpgmlhaaGreatDoorChG
namespace Go.Proofs.YtccnfbjdpgmlhaaGreatDoor
open Go.RowKit Go.Proofs.YtccnfbjdpgmlhaaGreatDoorW.PrintWords Go.Proofs.YtccnfbjdpgmlhaaGreatDoorW.PrintLast Go.Proofs.YtccnfbjdpgmlhaaGreatDoorW.PrintMore
set_option linter.unusedVariables false
set_option linter.unusedSimpArgs false

/-- a page in the books. -/
def pageB (P : List Page) (p : Nat) : List Int := [(par P p : Int), ((chg P p).size : Int)] ++ bytesOf (chg P p)
/-- the books of the pages 1 to k. -/
def booksF (P : List Page) : Nat → List Int
  | 0 => []
  | k + 1 => booksF P k ++ pageB P (k + 1)
def books (P : List Page) : List Int := booksF P (P.length - 1)
theorem addr_add (ad : Addr) (a b : Nat) : (ad.add a).add b = ad.add (a + b) := by by_cases hb : b = 0 <;> by_cases ha : a = 0 <;> simp [Addr.add, ha, hb, Nat.add_assoc]
theorem cutPages (ad : Addr) (m cap : Nat) (hc : m + 1 ≤ cap) (W : World) : (Instr.slice 23 (.slice (some ad) ((m + 1 : Nat)) cap) (some (.int .i64 1)) none none).run Tryz.prog W = .ok (.slice (some (if cap = 1 then ad else ad.add 3)) m (cap - 1)) W := by
  obtain ⟨i0, hi, hz0, hz1, hz2⟩ := info_parts infoPage
  have hel : Tryz.prog.elem 23 = 65 := by simp [Program.elem, Tryz.underlying23]
  have hu : Tryz.prog.underlying 23 = some (.slice (Tryz.prog.elem 23)) := by rw [hel]; exact Tryz.underlying23
  rw [run_slice_l W 23 (some ad) (m + 1) cap hu .i64 1 (by omega) (by omega), hel]
  by_cases h : cap = 1
  · subst h; simp [sizeOf, typeInfo, hi, hz1, sliced, Result.andThen]
  · simp [sizeOf, typeInfo, hi, hz1, sliced, Result.andThen, h, Addr.add]
theorem books_len (P : List Page) (hc : ∀ p, p < P.length → (chg P p).size ≤ 60) : ∀ k, k < P.length → (booksF P k).length ≤ k * 62 := by
  intro k
  induction k with
  | zero => intro _; exact Nat.le_refl _
  | succ k ih =>
    intro hk
    have h1 := ih (by omega)
    have h2 := hc (k + 1) hk
    rw [booksF, List.length_append, pageB, List.length_append, bytesOf_length]
    simp only [List.length_cons, List.length_nil]
    omega
theorem infoByte : (Tryz.prog.info? 5).map (fun i => (i.zero, i.size, i.bytes)) = some (some (.int .u8 0), 1, 1) := by kernel_rfl
theorem ownBlock_ne {w : World} {base : Nat} {e : TypeId} {size n : Nat} {v : Value} {xs : List Value} (h : w.ownsRow base e size v n xs) {g t : Nat} {cells : Array Value} (hb : w.heap[g]? = some (.cells cells t (0, 0))) (ht : e ≠ t) : some g ≠ v.ownBlock := fun e1 => by
  obtain ⟨cs, hc⟩ := own_typed h g e1.symm
  rw [hb] at hc
  injection hc with hc
  injection hc with _ hc
  exact ht hc.symm
set_option maxRecDepth 100000 in
set_option maxHeartbeats 4000000 in
theorem Bytes_calls (c : Nat) (v : Value) (P : List Page) (a base : Nat) (w : World) (h : ChestAt w base c v P a) (hO : Ok P a) (hch : ∀ p, p < P.length → (chg P p).size ≤ 60) :
    Calls Tryz.prog 18 #[.pointer (some ⟨c, 0, none⟩)] w fun e w' => (∃ v', e = .returned v' ∧ w'.ownsRow w.heap.size 5 1 v' (books P).length (nums .u8 (books P))) ∧ Below w.heap.size w w' := by
  have hat := hO.at_
  have hn := none_calls c v P a base w h (by omega)
  obtain ⟨A, cap, rfl, hl, hC, h0, h1, f0, f1⟩ := h.cells
  obtain ⟨ad0, rfl, hx00, _, _⟩ := page_at hC 0 (by omega)
  obtain ⟨m, hm⟩ : ∃ m, P.length = m + 1 := ⟨P.length - 1, by omega⟩
  have hcut := cutPages ad0 m cap (by omega)
  have HC := Aside0.mk hC
  have hm2 := hO.most
  have hcl : c < w.heap.size := World.block_lt_of_cell? w _ h0
  have HT := Aside0.mk (And.intro hO.tree hch)
  have HM := Aside0.mk hm
  have hoff : 0 < m → (if cap = 1 then ad0 else ad0.add 3) = ad0.add 3 := fun h => by rw [if_neg (by omega)]
  generalize hco : (if cap = 1 then ad0 else ad0.add 3) = co at hcut hoff
  have HO := Aside0.mk hoff
  have hBN := Aside0.mk (show books P = booksF P m by unfold books; rw [hm]; rfl)
  rw [hm] at h0
  clear h hC f0 f1 h1 hO hch hx00 hco hoff hat
  go_enter Tryz.func18, Tryz.ntmps18
  go_wp2_with (go_at_call 28; (with_reducible refine hn.mono ?_); rintro e w' ⟨rfl, rfl⟩)
  go_loopg [3, 14] m (fun gg s3 s14 W => ∃ (k : Nat), s14 = .int .i64 k ∧ k ≤ m ∧ Aside0 (m - k ≤ gg) ∧ Aside0 (W.ownsRow w.heap.size 5 1 s3 (booksF P k).length (nums .u8 (booksF P k))) ∧ Aside0 (Below w.heap.size w W))
  case atStart => exact ⟨0, rfl, Nat.zero_le _, ⟨by omega⟩, ⟨World.ownsRow_nil _ _ _ _⟩, ⟨Below.refl _ _⟩⟩
  case round =>
    obtain ⟨k, rfl, hk, hgk, HR, BW⟩ := hrel
    rcases Nat.lt_or_ge k m with hlt | hge
    · have hltz : (k : Int) < (m : Int) := by omega
      have hk0 : (0 : Int) ≤ (k : Int) := by omega
      have hkl : k + 1 < P.length := by have := HM.out; omega
      obtain ⟨ad, e0, hx0, hx1, hx2⟩ := page_at HC.out (k + 1) hkl
      injection e0 with e0
      subst e0
      have eco : co.add (k * 3) = ad0.add ((k + 1) * 3) := by
        rw [HO.out (by omega), addr_add]
        exact congrArg ad0.add (by omega)
      rw [← eco] at hx0 hx1 hx2
      replace hx0 := (BW.out.cell (World.block_lt_of_cell? w _ hx0)).trans hx0
      replace hx1 := (BW.out.cell (World.block_lt_of_cell? w _ hx1)).trans hx1
      replace hx2 := (BW.out.cell (World.block_lt_of_cell? w _ hx2)).trans hx2
      have hpr : par P (k + 1) < 200 := by have := HT.out.1 (k + 1) (by omega) hkl; unfold par; omega
      have hcs := HT.out.2 (k + 1) hkl
      have ES := Aside0.mk (show booksF P (k + 1) = (booksF P k ++ [(par P (k + 1) : Int), ((chg P (k + 1)).size : Int)]) ++ bytesOf (chg P (k + 1)) by rw [booksF, pageB, List.append_assoc])
      have hbl := books_len P HT.out.2 k (by omega)
      clear eco
      generalize (P.getD (k + 1) default).ptr = pt at hx2
      generalize chg P (k + 1) = ch at hx0 ES hcs
      generalize par P (k + 1) = q at hx1 hpr ES
      generalize hbk : booksF P k = bk at HR ES hbl
      clear hbk
      have hbl2 : bk.length ≤ 12400 := by omega
      clear hbl
      have hB2 := Aside0.mk (show Below w.heap.size w ((wr.alloc (.cells #[.string ch, .int .i64 q, .pointer (some ⟨pt, 0, none⟩)] 65)).alloc (.cells #[.int .u8 q, .int .u8 ch.size] 5)) from below_alloc (below_alloc BW.out _) _)
      have hR2 := Aside0.mk (show ((wr.alloc (.cells #[.string ch, .int .i64 q, .pointer (some ⟨pt, 0, none⟩)] 65)).alloc (.cells #[.int .u8 q, .int .u8 ch.size] 5)).ownsRow w.heap.size 5 1 u3 bk.length (nums .u8 bk) from (HR.out.alloc _).alloc _)
      have hRD := Aside0.mk (show ReadsInt ((wr.alloc (.cells #[.string ch, .int .i64 q, .pointer (some ⟨pt, 0, none⟩)] 65)).alloc (.cells #[.int .u8 q, .int .u8 ch.size] 5)) .u8 (some ⟨wr.heap.size + 1, 0, none⟩) 2 [(q : Int), (ch.size : Int)] from
        ⟨rfl, by omega, fun _ => ⟨_, rfl, fun j hj => by rcases (show j = 0 ∨ j = 1 by omega) with rfl | rfl <;> simp [add_plain]⟩⟩)
      go_wp2_with (first
        | (at_builtin; refine print_append_row (w0 := w) w.heap.size rfl (.tmp 18) (.tmp 26) 39 5 .u8 1 rfl Tryz.underlying39 infoByte (by decide) u3 bk [(q : Int), (ch.size : Int)] (some ⟨wr.heap.size + 1, 0, none⟩) 2 2 rfl rfl hR2.out hRD.out hB2.out hB2.out.size (by omega) ?_; intro v1 w2 hown1 hb1 hg1 hat1; have HR3 := Aside0.mk hown1; have HB3 := Aside0.mk hb1; have hbx := Aside0.mk (blk_grown (blk_alloc (blk_new wr (.cells #[.string ch, .int .i64 q, .pointer (some ⟨pt, 0, none⟩)] 65)) (.cells #[.int .u8 q, .int .u8 ch.size] 5)) hg1 (ownBlock_ne hR2.out (blk_alloc (blk_new wr (.cells #[.string ch, .int .i64 q, .pointer (some ⟨pt, 0, none⟩)] 65)) (.cells #[.int .u8 q, .int .u8 ch.size] 5)) (by decide))); have z0 := (blk_cell hbx.out 0).trans rfl; clear hown1 hb1 hg1 hat1)
        | (at_builtin; refine print_append_str (w0 := w) w.heap.size rfl (.tmp 28) (.tmp 30) 39 9 5 rfl Tryz.underlying39 Tryz.underlying9 infoByte v1 (bk ++ [(q : Int), (ch.size : Int)]) ch rfl rfl HR3.out HB3.out HB3.out.size (by rw [List.length_append]; simp; omega) ?_; intro v2 w3 hown2 hb2 hg2; have HR4 := Aside0.mk hown2; have HB4 := Aside0.mk hb2; clear hown2 hb2 hg2))
      go_roundg (m - (k + 1))
      case measure => have := hgk.out; omega
      case rel => exact ⟨k + 1, by go_num, by omega, ⟨Nat.le_refl _⟩, ⟨by rw [ES.out]; exact HR4.out⟩, HB4⟩
    · have hltz : ¬ (k : Int) < (m : Int) := by omega
      obtain rfl : k = m := by omega
      go_wp2
      go_ret
      exact ⟨⟨u3, rfl, by rw [hBN.out]; exact HR.out⟩, BW.out⟩
end Go.Proofs.YtccnfbjdpgmlhaaGreatDoor
