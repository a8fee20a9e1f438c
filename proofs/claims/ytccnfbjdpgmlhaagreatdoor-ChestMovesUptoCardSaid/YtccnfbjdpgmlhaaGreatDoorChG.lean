/- The chest's memory: kinds, a state, a chest, and what keeps them. Contracts of slices.IndexFunc and slices.ContainsFunc at the chest's element types. Walks of the chest: none, now, At, has, Go. Walks of the chest: Reverse at []int, way. Walks of the chest: Back. Walks of the chest: fork, Fork. Walks of the chest: child, Fork, New. Walks of the chest: New, Children, Path. -/
import Derived.Test.YtccnfbjdpgmlhaaGreatDoorWMore
import Derived.Test.YtccnfbjdpgmlhaaGreatDoorWInvWords
import Derived.Test.YtccnfbjdpgmlhaaGreatDoorProg
import Derived.Shelf.Abstract
import Derived.Below
import Derived.WalkKit
import Derived.KernelRfl
import Derived.Deep.QuietTactic
import Derived.BigQuiet
import Derived.Outline
import Derived.Test.YtccnfbjdpgmlhaaGreatDoorShelf
import Derived.Lib.OwnBridge
import Derived.Maps.AppendAt
import Derived.RegionTactic
import Derived.ChangeAlike
namespace Go.Proofs.YtccnfbjdpgmlhaaGreatDoor
open Go.RowKit Go.Proofs.YtccnfbjdpgmlhaaGreatDoorW.PrintWords Go.Proofs.YtccnfbjdpgmlhaaGreatDoorW.PrintLast Go.Proofs.YtccnfbjdpgmlhaaGreatDoorW.PrintMore

structure Leaf where
  name : ByteArray
  stock : Int
def kLeaf : Kd Leaf := Kd.iso (Kd.pair Kd.string (Kd.int .i64)) (fun x : Leaf => (x.name, x.stock))
structure Off where
  x : Int
  y : Int
def kOff : Kd Off := Kd.iso (Kd.pair (Kd.int .i64) (Kd.int .i64)) (fun x : Off => (x.x, x.y))
/-- a page as it lies in memory: its change, its parent, and the block of its state. -/
structure Pg where
  change : ByteArray
  parent : Int
  ptr : Nat
def kPtr : Kd Nat := Kd.scalar (fun b : Nat => Value.pointer (some ⟨b, 0, none⟩)) (fun _ => rfl)
def kPg : Kd Pg := Kd.iso (Kd.pair Kd.string (Kd.pair (Kd.int .i64) kPtr)) (fun x : Pg => (x.change, x.parent, x.ptr))

theorem kLeaf_open {w : World} {x : Leaf} {cs : List Value} (h : kLeaf.K w x cs) : cs = [.string x.name, .int .i64 x.stock] := by
  obtain ⟨_, _, rfl, rfl, rfl⟩ := h
  exact rfl
theorem kLeaf_openM {w : World} {base : Nat} {ok : Nat → Prop} {x : Leaf} {cs : List Value} (h : kLeaf.M w base ok x cs) : cs = [.string x.name, .int .i64 x.stock] := by
  obtain ⟨_, _, rfl, rfl, rfl⟩ := h
  exact rfl
theorem kLeaf_mk (w : World) (x : Leaf) : kLeaf.K w x [.string x.name, .int .i64 x.stock] := ⟨[.string x.name], [.int .i64 x.stock], rfl, rfl, rfl⟩
theorem kLeaf_mkM (w : World) (base : Nat) (ok : Nat → Prop) (x : Leaf) : kLeaf.M w base ok x [.string x.name, .int .i64 x.stock] := ⟨[.string x.name], [.int .i64 x.stock], rfl, rfl, rfl⟩
theorem kOff_open {w : World} {x : Off} {cs : List Value} (h : kOff.K w x cs) : cs = [.int .i64 x.x, .int .i64 x.y] := by
  obtain ⟨_, _, rfl, rfl, rfl⟩ := h
  exact rfl
theorem kOff_mk (w : World) (x : Off) : kOff.K w x [.int .i64 x.x, .int .i64 x.y] := ⟨[.int .i64 x.x], [.int .i64 x.y], rfl, rfl, rfl⟩
theorem kOff_mkM (w : World) (base : Nat) (ok : Nat → Prop) (x : Off) : kOff.M w base ok x [.int .i64 x.x, .int .i64 x.y] := ⟨[.int .i64 x.x], [.int .i64 x.y], rfl, rfl, rfl⟩
theorem kPg_open {w : World} {x : Pg} {cs : List Value} (h : kPg.K w x cs) : cs = [.string x.change, .int .i64 x.parent, .pointer (some ⟨x.ptr, 0, none⟩)] := by
  obtain ⟨_, _, rfl, rfl, ⟨_, _, rfl, rfl, rfl⟩⟩ := h
  exact rfl
theorem kPg_mk (w : World) (x : Pg) : kPg.K w x [.string x.change, .int .i64 x.parent, .pointer (some ⟨x.ptr, 0, none⟩)] := ⟨[.string x.change], [.int .i64 x.parent, .pointer (some ⟨x.ptr, 0, none⟩)], rfl, rfl, ⟨[.int .i64 x.parent], [.pointer (some ⟨x.ptr, 0, none⟩)], rfl, rfl, rfl⟩⟩
theorem kPg_mkM (w : World) (base : Nat) (ok : Nat → Prop) (x : Pg) : kPg.M w base ok x [.string x.change, .int .i64 x.parent, .pointer (some ⟨x.ptr, 0, none⟩)] := ⟨[.string x.change], [.int .i64 x.parent, .pointer (some ⟨x.ptr, 0, none⟩)], rfl, rfl, ⟨[.int .i64 x.parent], [.pointer (some ⟨x.ptr, 0, none⟩)], rfl, rfl, rfl⟩⟩
instance : Inhabited Leaf := ⟨⟨ByteArray.empty, 0⟩⟩
instance : Inhabited Off := ⟨⟨0, 0⟩⟩
instance : Inhabited Pg := ⟨⟨ByteArray.empty, 0, 0⟩⟩

/-- element i of a row that is read. -/
theorem at_leaf {w : World} {A : Option Addr} {n : Nat} {xs : List Leaf} (h : Kd.C kLeaf w A n xs) (i : Int) (h0 : 0 ≤ i) (h1 : i < n) :
    ∃ ad, A = some ad ∧ w.cell? (ad.add (i.toNat * 2)) = some (.string (xs.getD i.toNat default).name) ∧ w.cell? ⟨(ad.add (i.toNat * 2)).block, (ad.add (i.toNat * 2)).off + 1, none⟩ = some (.int .i64 (xs.getD i.toNat default).stock) := by
  obtain ⟨ad, c, e, _, hK, hc0⟩ := Kd.C_get h default i h0 h1
  have hc : ∀ j u, c[j]? = some u → w.cell? (ad.add (i.toNat * 2 + j)) = some u := hc0
  obtain rfl := kLeaf_open hK
  exact ⟨ad, e, hc 0 _ rfl, by rw [← add_field _ _ 1 (by omega)]; exact hc 1 _ rfl⟩
theorem at_off {w : World} {A : Option Addr} {n : Nat} {xs : List Off} (h : Kd.C kOff w A n xs) (i : Int) (h0 : 0 ≤ i) (h1 : i < n) :
    ∃ ad, A = some ad ∧ w.cell? (ad.add (i.toNat * 2)) = some (.int .i64 (xs.getD i.toNat default).x) ∧ w.cell? ⟨(ad.add (i.toNat * 2)).block, (ad.add (i.toNat * 2)).off + 1, none⟩ = some (.int .i64 (xs.getD i.toNat default).y) := by
  obtain ⟨ad, c, e, _, hK, hc0⟩ := Kd.C_get h default i h0 h1
  have hc : ∀ j u, c[j]? = some u → w.cell? (ad.add (i.toNat * 2 + j)) = some u := hc0
  obtain rfl := kOff_open hK
  exact ⟨ad, e, hc 0 _ rfl, by rw [← add_field _ _ 1 (by omega)]; exact hc 1 _ rfl⟩
theorem at_pg {w : World} {A : Option Addr} {n : Nat} {xs : List Pg} (h : Kd.C kPg w A n xs) (i : Int) (h0 : 0 ≤ i) (h1 : i < n) :
    ∃ ad, A = some ad ∧ w.cell? (ad.add (i.toNat * 3)) = some (.string (xs.getD i.toNat default).change) ∧ w.cell? ⟨(ad.add (i.toNat * 3)).block, (ad.add (i.toNat * 3)).off + 1, none⟩ = some (.int .i64 (xs.getD i.toNat default).parent) ∧
      w.cell? ⟨(ad.add (i.toNat * 3)).block, (ad.add (i.toNat * 3)).off + 2, none⟩ = some (.pointer (some ⟨(xs.getD i.toNat default).ptr, 0, none⟩)) := by
  obtain ⟨ad, c, e, _, hK, hc0⟩ := Kd.C_get h default i h0 h1
  have hc : ∀ j u, c[j]? = some u → w.cell? (ad.add (i.toNat * 3 + j)) = some u := hc0
  obtain rfl := kPg_open hK
  exact ⟨ad, e, hc 0 _ rfl, by rw [← add_field _ _ 1 (by omega)]; exact hc 1 _ rfl, by rw [← add_field _ _ 2 (by omega)]; exact hc 2 _ rfl⟩

/-- a state. -/
structure St where
  leaves : List Leaf
  orders : List Int
  t0 : Int
  t1 : Int
  t2 : Int
  t3 : Int
  offers : List Off
def St.zero : St := ⟨[], [], 0, 0, 0, 0, []⟩
def Tt : Nat → Prop := fun _ => True
/-- a state in memory, in block b; all that it leads to lies from base on. -/
def StAt (w : World) (base b : Nat) (s : St) : Prop :=
  ∃ v1 v2 v3 : Value, w.heap[b]? = some (.cells #[v1, v2, .int .i64 s.t0, .int .i64 s.t1, .int .i64 s.t2, .int .i64 s.t3, v3] 76 (0, 0)) ∧ base ≤ b ∧
    Kd.R kLeaf 96 w base Tt v1 s.leaves ∧ Kd.R (Kd.int .i64) 3 w base Tt v2 s.orders ∧ Kd.R kOff 72 w base Tt v3 s.offers
theorem blk_keep {w w' : World} {g : Nat} {o : Obj} (h : w.heap[g]? = some o) (hb : Below w.heap.size w w') : w'.heap[g]? = some o := (hb.block g (blk_lt h)).trans h
theorem blk_new (w : World) (o : Obj) : (w.alloc o).heap[w.heap.size]? = some o := heap_alloc_new w _
theorem StAt.below {w w' : World} {base b : Nat} {s : St} (h : StAt w base b s) (hb : Below w.heap.size w w') : StAt w' base b s := by
  obtain ⟨v1, v2, v3, h0, h1, h2, h3, h4⟩ := h
  exact ⟨v1, v2, v3, blk_keep h0 hb, h1, Kd.R_below h2 hb, Kd.R_below h3 hb, Kd.R_below h4 hb⟩
theorem StAt.lower {w : World} {base base' b : Nat} {s : St} (h : StAt w base b s) (hb : base' ≤ base) : StAt w base' b s := by
  obtain ⟨v1, v2, v3, h0, h1, h2, h3, h4⟩ := h
  exact ⟨v1, v2, v3, h0, Nat.le_trans hb h1, Kd.R_lower h2 hb, Kd.R_lower h3 hb, Kd.R_lower h4 hb⟩
/-- all blocks but those of the types 't' stand: so does a state. -/
theorem StAt.typed {w w' : World} {base b : Nat} {s : St} (h : StAt w base b s) (hm : ∀ (k q : Nat) (cells : Array Value), w.heap[k]? = some (.cells cells q (0, 0)) → q = 76 ∨ q = 96 ∨ q = 3 ∨ q = 72 → w'.heap[k]? = w.heap[k]?) : StAt w' base b s := by
  obtain ⟨v1, v2, v3, h0, h1, h2, h3, h4⟩ := h
  refine ⟨v1, v2, v3, (hm b _ _ h0 (.inl rfl)).trans h0, h1, ?_, ?_, ?_⟩
  · exact Kd.R_mono (Kd.R_move (Kd.R_bound h2) (fun k hk => by
      obtain ⟨_, _, _, q, hq, cells, hc⟩ := hk
      refine hm k q cells hc ?_
      simp [kLeaf, Kd.iso, Kd.pair, Kd.string, Kd.int, Kd.scalar] at hq
      simp [hq])) (fun _ _ => trivial)
  · exact Kd.R_mono (Kd.R_move (Kd.R_bound h3) (fun k hk => by
      obtain ⟨_, _, _, q, hq, cells, hc⟩ := hk
      refine hm k q cells hc ?_
      simp [Kd.int, Kd.scalar] at hq
      simp [hq])) (fun _ _ => trivial)
  · exact Kd.R_mono (Kd.R_move (Kd.R_bound h4) (fun k hk => by
      obtain ⟨_, _, _, q, hq, cells, hc⟩ := hk
      refine hm k q cells hc ?_
      simp [kOff, Kd.iso, Kd.pair, Kd.int, Kd.scalar] at hq
      simp [hq])) (fun _ _ => trivial)

/-- a page of the books. -/
structure Page where
  change : ByteArray
  parent : Nat
  ptr : Nat
  st : St
def Page.pg (p : Page) : Pg := ⟨p.change, p.parent, p.ptr⟩
instance : Inhabited Page := ⟨⟨ByteArray.empty, 0, 0, St.zero⟩⟩
/-- a chest in memory, in block c: its pages (the slice v) and where it is. -/
def ChestAt (w : World) (base c : Nat) (v : Value) (P : List Page) (a : Nat) : Prop :=
  w.heap[c]? = some (.cells #[v, .int .i64 a] 25 (0, 0)) ∧ base ≤ c ∧ Kd.R kPg 65 w base Tt v (P.map Page.pg) ∧ ∀ p ∈ P, StAt w base p.ptr p.st
theorem ChestAt.below {w w' : World} {base c : Nat} {v : Value} {P : List Page} {a : Nat} (h : ChestAt w base c v P a) (hb : Below w.heap.size w w') : ChestAt w' base c v P a :=
  ⟨blk_keep h.1 hb, h.2.1, Kd.R_below h.2.2.1 hb, fun p hp => (h.2.2.2 p hp).below hb⟩
/-- a row of pages stands where blocks of the type page and what lies under them stand. -/
theorem pages_move {w w' : World} {base : Nat} {v : Value} {ps : List Pg} (h : Kd.R kPg 65 w base Tt v ps) (hm : ∀ (k : Nat) (cells : Array Value), w.heap[k]? = some (.cells cells 65 (0, 0)) → w'.heap[k]? = w.heap[k]?) : Kd.R kPg 65 w' base Tt v ps :=
  Kd.R_mono (Kd.R_move (Kd.R_bound h) (fun k hk => by
      obtain ⟨_, _, _, q, hq, cells, hc⟩ := hk
      simp [kPg, kPtr, Kd.iso, Kd.pair, Kd.string, Kd.int, Kd.scalar] at hq
      subst hq
      exact hm k cells hc)) (fun _ _ => trivial)
theorem blk_type {w : World} {g : Nat} {t t' : Nat} {cs cs' : Array Value} (h : w.heap[g]? = some (.cells cs t (0, 0))) (h' : w.heap[g]? = some (.cells cs' t' (0, 0))) : t = t' := by
  rw [h] at h'
  injection h' with h'
  injection h' with _ h'
/-- a store into the chest's own block leaves all states. -/
theorem StAt.setChest {w : World} {base b c : Nat} {s : St} {cs : Array Value} (h : StAt w base b s) (hc : w.heap[c]? = some (.cells cs 25 (0, 0))) (j : Nat) (u : Value) : StAt (w.setCell ⟨c, j, none⟩ u) base b s :=
  h.typed (fun k q cells hk hq => by
    refine Below.heap_setCell w ⟨c, j, none⟩ u k ?_
    rintro rfl
    have e := blk_type hk hc
    rcases hq with rfl | rfl | rfl | rfl <;> cases e)
theorem ChestAt.setAt {w : World} {base c : Nat} {v : Value} {P : List Page} {a : Nat} (h : ChestAt w base c v P a) (a' : Nat) : ChestAt (w.setCell ⟨c, 1, none⟩ (.int .i64 a')) base c v P a' :=
  ⟨blk_set h.1 1 _, h.2.1, pages_move h.2.2.1 (fun k cells hk => by
    refine Below.heap_setCell w ⟨c, 1, none⟩ _ k ?_
    rintro rfl
    have e := blk_type hk h.1
    cases e), fun p hp => (h.2.2.2 p hp).setChest h.1 _ _⟩
/-- a store into the chest's pages, by a slice that was made by an append. -/
theorem ChestAt.put {w w1 : World} {base c : Nat} {v v1 : Value} {P : List Page} {p : Page} {a : Nat} (h : ChestAt w base c v P a) (hg : w.grownBy w1 v.ownBlock) (hR : Kd.R kPg 65 w1 base Tt v1 ((P ++ [p]).map Page.pg))
    (hp : StAt w base p.ptr p.st) : ChestAt (w1.setCell ⟨c, 0, none⟩ v1) base c v1 (P ++ [p]) a := by
  have hne : ∀ (k q : Nat) (cells : Array Value), w.heap[k]? = some (.cells cells q (0, 0)) → q ≠ 65 → w1.heap[k]? = w.heap[k]? := fun k q cells hk hq => by
    refine hg.block k (blk_lt hk) (fun e => ?_)
    obtain ⟨inner, ho⟩ := Kd.R_own h.2.2.1
    obtain ⟨cs, hc⟩ := own_typed ho k e.symm
    exact hq (blk_type hk hc)
  have h1 : w1.heap[c]? = some (.cells #[v, .int .i64 a] 25 (0, 0)) := (hne c _ _ h.1 (by decide)).trans h.1
  refine ⟨blk_set h1 0 _, h.2.1, pages_move hR (fun k cells hk => by
    refine Below.heap_setCell w1 ⟨c, 0, none⟩ _ k ?_
    rintro rfl
    have e := blk_type hk h1
    cases e), fun q hq => ?_⟩
  have hs : StAt w base q.ptr q.st := by
    rcases List.mem_append.mp hq with h2 | h2
    · exact h.2.2.2 q h2
    · rw [List.mem_singleton.mp h2]; exact hp
  exact (hs.typed (fun k t cells hk ht => hne k t cells hk (by rcases ht with rfl | rfl | rfl | rfl <;> decide))).setChest h1 _ _
end Go.Proofs.YtccnfbjdpgmlhaaGreatDoor

namespace Go.Proofs.YtccnfbjdpgmlhaaGreatDoor
open Go.RowKit Go.Proofs.YtccnfbjdpgmlhaaGreatDoorW.PrintWords Go.Proofs.YtccnfbjdpgmlhaaGreatDoorW.PrintLast Go.Proofs.YtccnfbjdpgmlhaaGreatDoorW.PrintMore
set_option linter.unusedVariables false
set_option linter.unusedSimpArgs false

/-- the index of the first element of which p says yes, counted from i; -1: there is none. -/
def idxT {α : Type} (p : α → Bool) : List α → Int → Int
  | [], _ => -1
  | x :: l, i => if p x = true then i else idxT p l (i + 1)
theorem idxT_pos {α : Type} (p : α → Bool) (l : List α) : ∀ (i : Int), 0 ≤ i → (0 ≤ idxT p l i ↔ l.any p = true) := by
  induction l with
  | nil => intro i _; simp [idxT]
  | cons x l ih =>
    intro i hi
    rw [List.any_cons]
    show 0 ≤ (if p x = true then i else idxT p l (i + 1)) ↔ _
    by_cases hp : p x = true
    · rw [if_pos hp, hp]; simp [hi]
    · rw [if_neg hp, ih (i + 1) (by omega)]; simp [hp]
theorem idxT_any {α : Type} (p : α → Bool) (l : List α) (i : Int) (h : 0 ≤ i) : decide (0 ≤ idxT p l i) = l.any p := by
  rw [Bool.eq_iff_iff, decide_eq_true_iff]
  exact idxT_pos p l i h
theorem drop_at {α : Type} (l : List α) (z : α) (k : Nat) (h : k < l.length) : l.drop k = l.getD k z :: l.drop (k + 1) := by
  rw [List.drop_eq_getElem_cons h]; simp [List.getElem?_eq_getElem h]
theorem getD_mem {α : Type} {l : List α} {z : α} {j : Nat} (hj : j < l.length) : l.getD j z ∈ l := by
  rw [List.getD_eq_getElem?_getD, List.getElem?_eq_getElem hj]; exact List.getElem_mem hj
/-- what is asked of a predicate: at each element of l, in every world in which all that lay in w lies unturned. -/
def PredT (P : Program) {α : Type} (g : Nat) (lb : Array Value) (enc : α → Value) (p : α → Bool) (l : List α) (w : World) : Prop :=
  ∀ (W : World) (x : α), x ∈ l → Below w.heap.size w W → Calls P g (#[enc x] ++ lb) W fun e w' => e = .returned (.bool (p x)) ∧ Below W.heap.size W w'

set_option maxHeartbeats 2000000 in
theorem idx_page (g : Nat) (lb : Array Value) (p : Pg → Bool) (A : Option Addr) (c : Nat) (l : List Pg) (w : World)
    (eg : ∀ args w, (callFunc g args).run Tryz.prog w = .ok (.enter g args) w)
    (hp : PredT Tryz.prog g lb (fun x : Pg => .agg #[.string x.change, .int .i64 x.parent, .pointer (some ⟨x.ptr, 0, none⟩)]) p l w) (hr0 : Kd.C kPg w A l.length l) (hc0 : l.length ≤ c) (hbig : l.length ≤ 9223372036854775807) :
    Calls Tryz.prog 48 #[.slice A l.length c, .func (.func g) #[] lb] w fun e w' => e = .returned (.int .i64 (idxT p l 0)) ∧ Below w.heap.size w w' := by
  have HP := Aside0.mk hp
  have HR := Aside0.mk hr0
  have HC := Aside0.mk hc0
  clear hp hr0 hc0
  go_enter Tryz.func48, Tryz.ntmps48
  go_wp2
  go_loopg [5, 8] l.length (fun gg _ s8 wr => ∃ kk : Nat, kk ≤ l.length ∧ Aside0 (l.length - kk ≤ gg) ∧ s8 = .int .i64 kk ∧ Aside0 (Below w.heap.size w wr) ∧ Aside0 (idxT p l 0 = idxT p (l.drop kk) kk))
  case atStart => exact ⟨0, Nat.zero_le _, ⟨by omega⟩, rfl, ⟨Below.refl _ w⟩, ⟨by simp⟩⟩
  case round =>
    obtain ⟨kk, hkk, hg, rfl, BW, A1⟩ := hrel
    by_cases hlt : kk < l.length
    · have hltz : (kk : Int) < (l.length : Int) := by omega
      have h1 := A1.out
      rw [drop_at l default kk hlt] at h1
      simp only [idxT] at h1
      have hmem : l.getD kk default ∈ l := getD_mem hlt
      obtain ⟨ad, rfl, hx0, hx1, hx2⟩ := at_pg HR.out (kk : Int) (by omega) (by omega)
      replace hx0 := (BW.out.cell (World.block_lt_of_cell? w _ hx0)).trans hx0
      replace hx1 := (BW.out.cell (World.block_lt_of_cell? w _ hx1)).trans hx1
      replace hx2 := (BW.out.cell (World.block_lt_of_cell? w _ hx2)).trans hx2
      simp only [Int.toNat_natCast] at hx0 hx1 hx2
      generalize hy : l.getD kk default = y at h1 hmem hx0 hx1 hx2
      clear hy
      have hcall := HP.out wr y hmem BW.out
      clear hmem A1
      cases hq : p y with
      | true =>
        rw [hq] at hcall h1
        simp only [if_true] at h1
        have H1 := Aside0.mk h1
        clear h1 hq
        go_wp2_with (go_at_fn g; refine hcall.mono ?_; rintro e w' ⟨rfl, hb'⟩)
        go_ret
        exact ⟨by rw [H1.out]; rfl, BW.out.trans (hb'.mono BW.out.size)⟩
      | false =>
        rw [hq] at hcall h1
        simp only [Bool.false_eq_true, if_false] at h1
        have H1 := Aside0.mk h1
        clear h1 hq
        go_wp2_with (go_at_fn g; refine hcall.mono ?_; rintro e w' ⟨rfl, hb'⟩)
        go_roundg (l.length - (kk + 1))
        case measure => have := hg.out; omega
        case rel =>
          exact ⟨kk + 1, by omega, ⟨by omega⟩, by go_num, ⟨BW.out.trans (hb'.mono BW.out.size)⟩, ⟨by have := H1.out; push_cast; exact this⟩⟩
    · have hltz : ¬ (kk : Int) < (l.length : Int) := by omega
      have h1 := A1.out
      rw [List.drop_eq_nil_of_le (by omega)] at h1
      simp only [idxT] at h1
      have H1 := Aside0.mk h1
      clear h1 A1
      go_wp2
      go_ret
      exact ⟨by rw [H1.out]; rfl, BW.out⟩

set_option maxHeartbeats 2000000 in
theorem idx_leaf (g : Nat) (lb : Array Value) (p : Leaf → Bool) (A : Option Addr) (c : Nat) (l : List Leaf) (w : World)
    (eg : ∀ args w, (callFunc g args).run Tryz.prog w = .ok (.enter g args) w)
    (hp : PredT Tryz.prog g lb (fun x : Leaf => .agg #[.string x.name, .int .i64 x.stock]) p l w) (hr0 : Kd.C kLeaf w A l.length l) (hc0 : l.length ≤ c) (hbig : l.length ≤ 9223372036854775807) :
    Calls Tryz.prog 101 #[.slice A l.length c, .func (.func g) #[] lb] w fun e w' => e = .returned (.int .i64 (idxT p l 0)) ∧ Below w.heap.size w w' := by
  have HP := Aside0.mk hp
  have HR := Aside0.mk hr0
  have HC := Aside0.mk hc0
  clear hp hr0 hc0
  go_enter Tryz.func101, Tryz.ntmps101
  go_wp2
  go_loopg [5, 8] l.length (fun gg _ s8 wr => ∃ kk : Nat, kk ≤ l.length ∧ Aside0 (l.length - kk ≤ gg) ∧ s8 = .int .i64 kk ∧ Aside0 (Below w.heap.size w wr) ∧ Aside0 (idxT p l 0 = idxT p (l.drop kk) kk))
  case atStart => exact ⟨0, Nat.zero_le _, ⟨by omega⟩, rfl, ⟨Below.refl _ w⟩, ⟨by simp⟩⟩
  case round =>
    obtain ⟨kk, hkk, hg, rfl, BW, A1⟩ := hrel
    by_cases hlt : kk < l.length
    · have hltz : (kk : Int) < (l.length : Int) := by omega
      have h1 := A1.out
      rw [drop_at l default kk hlt] at h1
      simp only [idxT] at h1
      have hmem : l.getD kk default ∈ l := getD_mem hlt
      obtain ⟨ad, rfl, hx0, hx1⟩ := at_leaf HR.out (kk : Int) (by omega) (by omega)
      replace hx0 := (BW.out.cell (World.block_lt_of_cell? w _ hx0)).trans hx0
      replace hx1 := (BW.out.cell (World.block_lt_of_cell? w _ hx1)).trans hx1
      simp only [Int.toNat_natCast] at hx0 hx1
      generalize hy : l.getD kk default = y at h1 hmem hx0 hx1
      clear hy
      have hcall := HP.out wr y hmem BW.out
      clear hmem A1
      cases hq : p y with
      | true =>
        rw [hq] at hcall h1
        simp only [if_true] at h1
        have H1 := Aside0.mk h1
        clear h1 hq
        go_wp2_with (go_at_fn g; refine hcall.mono ?_; rintro e w' ⟨rfl, hb'⟩)
        go_ret
        exact ⟨by rw [H1.out]; rfl, BW.out.trans (hb'.mono BW.out.size)⟩
      | false =>
        rw [hq] at hcall h1
        simp only [Bool.false_eq_true, if_false] at h1
        have H1 := Aside0.mk h1
        clear h1 hq
        go_wp2_with (go_at_fn g; refine hcall.mono ?_; rintro e w' ⟨rfl, hb'⟩)
        go_roundg (l.length - (kk + 1))
        case measure => have := hg.out; omega
        case rel =>
          exact ⟨kk + 1, by omega, ⟨by omega⟩, by go_num, ⟨BW.out.trans (hb'.mono BW.out.size)⟩, ⟨by have := H1.out; push_cast; exact this⟩⟩
    · have hltz : ¬ (kk : Int) < (l.length : Int) := by omega
      have h1 := A1.out
      rw [List.drop_eq_nil_of_le (by omega)] at h1
      simp only [idxT] at h1
      have H1 := Aside0.mk h1
      clear h1 A1
      go_wp2
      go_ret
      exact ⟨by rw [H1.out]; rfl, BW.out⟩

set_option maxHeartbeats 2000000 in
theorem idx_int (g : Nat) (lb : Array Value) (p : Int → Bool) (A : Option Addr) (c : Nat) (l : List Int) (w : World)
    (eg : ∀ args w, (callFunc g args).run Tryz.prog w = .ok (.enter g args) w)
    (hp : PredT Tryz.prog g lb (fun x : Int => .int .i64 x) p l w) (hr0 : Kd.C (Kd.int .i64) w A l.length l) (hc0 : l.length ≤ c) (hbig : l.length ≤ 9223372036854775807) :
    Calls Tryz.prog 96 #[.slice A l.length c, .func (.func g) #[] lb] w fun e w' => e = .returned (.int .i64 (idxT p l 0)) ∧ Below w.heap.size w w' := by
  have HP := Aside0.mk hp
  have HR := Aside0.mk hr0
  have HC := Aside0.mk hc0
  clear hp hr0 hc0
  go_enter Tryz.func96, Tryz.ntmps96
  go_wp2
  go_loopg [5, 8] l.length (fun gg _ s8 wr => ∃ kk : Nat, kk ≤ l.length ∧ Aside0 (l.length - kk ≤ gg) ∧ s8 = .int .i64 kk ∧ Aside0 (Below w.heap.size w wr) ∧ Aside0 (idxT p l 0 = idxT p (l.drop kk) kk))
  case atStart => exact ⟨0, Nat.zero_le _, ⟨by omega⟩, rfl, ⟨Below.refl _ w⟩, ⟨by simp⟩⟩
  case round =>
    obtain ⟨kk, hkk, hg, rfl, BW, A1⟩ := hrel
    by_cases hlt : kk < l.length
    · have hltz : (kk : Int) < (l.length : Int) := by omega
      have h1 := A1.out
      rw [drop_at l 0 kk hlt] at h1
      simp only [idxT] at h1
      have hmem : l.getD kk 0 ∈ l := getD_mem hlt
      obtain ⟨ad, rfl, hx0⟩ := ReadsInt.at_ (readsInt_of.mpr (Kd.reads_of_C (d := (0 : Int)) HR.out)) (kk : Int) (by omega) (by omega)
      replace hx0 := (BW.out.cell (World.block_lt_of_cell? w _ hx0)).trans hx0
      simp only [rd, Int.toNat_natCast] at hx0
      generalize hy : l.getD kk 0 = y at h1 hmem hx0
      clear hy
      have hcall := HP.out wr y hmem BW.out
      clear hmem A1
      cases hq : p y with
      | true =>
        rw [hq] at hcall h1
        simp only [if_true] at h1
        have H1 := Aside0.mk h1
        clear h1 hq
        go_wp2_with (go_at_fn g; refine hcall.mono ?_; rintro e w' ⟨rfl, hb'⟩)
        go_ret
        exact ⟨by rw [H1.out]; rfl, BW.out.trans (hb'.mono BW.out.size)⟩
      | false =>
        rw [hq] at hcall h1
        simp only [Bool.false_eq_true, if_false] at h1
        have H1 := Aside0.mk h1
        clear h1 hq
        go_wp2_with (go_at_fn g; refine hcall.mono ?_; rintro e w' ⟨rfl, hb'⟩)
        go_roundg (l.length - (kk + 1))
        case measure => have := hg.out; omega
        case rel =>
          exact ⟨kk + 1, by omega, ⟨by omega⟩, by go_num, ⟨BW.out.trans (hb'.mono BW.out.size)⟩, ⟨by have := H1.out; push_cast; exact this⟩⟩
    · have hltz : ¬ (kk : Int) < (l.length : Int) := by omega
      have h1 := A1.out
      rw [List.drop_eq_nil_of_le (by omega)] at h1
      simp only [idxT] at h1
      have H1 := Aside0.mk h1
      clear h1 A1
      go_wp2
      go_ret
      exact ⟨by rw [H1.out]; rfl, BW.out⟩

set_option maxHeartbeats 2000000 in
theorem any_int (g : Nat) (lb : Array Value) (p : Int → Bool) (A : Option Addr) (c : Nat) (l : List Int) (w : World)
    (eg : ∀ args w, (callFunc g args).run Tryz.prog w = .ok (.enter g args) w)
    (hp : PredT Tryz.prog g lb (fun x : Int => .int .i64 x) p l w) (hr0 : Kd.C (Kd.int .i64) w A l.length l) (hc0 : l.length ≤ c) (hbig : l.length ≤ 9223372036854775807) :
    Calls Tryz.prog 61 #[.slice A l.length c, .func (.func g) #[] lb] w fun e w' => e = .returned (.bool (l.any p)) ∧ Below w.heap.size w w' := by
  have hcall := idx_int g lb p A c l w eg hp hr0 hc0 hbig
  have HD := Aside0.mk (idxT_any p l 0 (by omega))
  clear hp hr0 hc0 hbig
  go_enter Tryz.func61, Tryz.ntmps61
  go_wp2_with (go_at_call 96; refine hcall.mono ?_; rintro e w' ⟨rfl, hb'⟩)
  go_ret
  exact ⟨by rw [← HD.out]; rfl, hb'⟩

set_option maxHeartbeats 2000000 in
theorem idx_byte (g : Nat) (lb : Array Value) (p : Int → Bool) (A : Option Addr) (c : Nat) (l : List Int) (w : World)
    (eg : ∀ args w, (callFunc g args).run Tryz.prog w = .ok (.enter g args) w)
    (hp : PredT Tryz.prog g lb (fun x : Int => .int .u8 x) p l w) (hr0 : Kd.C (Kd.int .u8) w A l.length l) (hc0 : l.length ≤ c) (hbig : l.length ≤ 9223372036854775807) :
    Calls Tryz.prog 162 #[.slice A l.length c, .func (.func g) #[] lb] w fun e w' => e = .returned (.int .i64 (idxT p l 0)) ∧ Below w.heap.size w w' := by
  have HP := Aside0.mk hp
  have HR := Aside0.mk hr0
  have HC := Aside0.mk hc0
  clear hp hr0 hc0
  go_enter Tryz.func162, Tryz.ntmps162
  go_wp2
  go_loopg [5, 8] l.length (fun gg _ s8 wr => ∃ kk : Nat, kk ≤ l.length ∧ Aside0 (l.length - kk ≤ gg) ∧ s8 = .int .i64 kk ∧ Aside0 (Below w.heap.size w wr) ∧ Aside0 (idxT p l 0 = idxT p (l.drop kk) kk))
  case atStart => exact ⟨0, Nat.zero_le _, ⟨by omega⟩, rfl, ⟨Below.refl _ w⟩, ⟨by simp⟩⟩
  case round =>
    obtain ⟨kk, hkk, hg, rfl, BW, A1⟩ := hrel
    by_cases hlt : kk < l.length
    · have hltz : (kk : Int) < (l.length : Int) := by omega
      have h1 := A1.out
      rw [drop_at l 0 kk hlt] at h1
      simp only [idxT] at h1
      have hmem : l.getD kk 0 ∈ l := getD_mem hlt
      obtain ⟨ad, rfl, hx0⟩ := ReadsInt.at_ (readsInt_of.mpr (Kd.reads_of_C (d := (0 : Int)) HR.out)) (kk : Int) (by omega) (by omega)
      replace hx0 := (BW.out.cell (World.block_lt_of_cell? w _ hx0)).trans hx0
      simp only [rd, Int.toNat_natCast] at hx0
      generalize hy : l.getD kk 0 = y at h1 hmem hx0
      clear hy
      have hcall := HP.out wr y hmem BW.out
      clear hmem A1
      cases hq : p y with
      | true =>
        rw [hq] at hcall h1
        simp only [if_true] at h1
        have H1 := Aside0.mk h1
        clear h1 hq
        go_wp2_with (go_at_fn g; refine hcall.mono ?_; rintro e w' ⟨rfl, hb'⟩)
        go_ret
        exact ⟨by rw [H1.out]; rfl, BW.out.trans (hb'.mono BW.out.size)⟩
      | false =>
        rw [hq] at hcall h1
        simp only [Bool.false_eq_true, if_false] at h1
        have H1 := Aside0.mk h1
        clear h1 hq
        go_wp2_with (go_at_fn g; refine hcall.mono ?_; rintro e w' ⟨rfl, hb'⟩)
        go_roundg (l.length - (kk + 1))
        case measure => have := hg.out; omega
        case rel =>
          exact ⟨kk + 1, by omega, ⟨by omega⟩, by go_num, ⟨BW.out.trans (hb'.mono BW.out.size)⟩, ⟨by have := H1.out; push_cast; exact this⟩⟩
    · have hltz : ¬ (kk : Int) < (l.length : Int) := by omega
      have h1 := A1.out
      rw [List.drop_eq_nil_of_le (by omega)] at h1
      simp only [idxT] at h1
      have H1 := Aside0.mk h1
      clear h1 A1
      go_wp2
      go_ret
      exact ⟨by rw [H1.out]; rfl, BW.out⟩

set_option maxHeartbeats 2000000 in
theorem any_byte (g : Nat) (lb : Array Value) (p : Int → Bool) (A : Option Addr) (c : Nat) (l : List Int) (w : World)
    (eg : ∀ args w, (callFunc g args).run Tryz.prog w = .ok (.enter g args) w)
    (hp : PredT Tryz.prog g lb (fun x : Int => .int .u8 x) p l w) (hr0 : Kd.C (Kd.int .u8) w A l.length l) (hc0 : l.length ≤ c) (hbig : l.length ≤ 9223372036854775807) :
    Calls Tryz.prog 109 #[.slice A l.length c, .func (.func g) #[] lb] w fun e w' => e = .returned (.bool (l.any p)) ∧ Below w.heap.size w w' := by
  have hcall := idx_byte g lb p A c l w eg hp hr0 hc0 hbig
  have HD := Aside0.mk (idxT_any p l 0 (by omega))
  clear hp hr0 hc0 hbig
  go_enter Tryz.func109, Tryz.ntmps109
  go_wp2_with (go_at_call 162; refine hcall.mono ?_; rintro e w' ⟨rfl, hb'⟩)
  go_ret
  exact ⟨by rw [← HD.out]; rfl, hb'⟩
end Go.Proofs.YtccnfbjdpgmlhaaGreatDoor

namespace Go.Proofs.YtccnfbjdpgmlhaaGreatDoor
open Go.RowKit Go.Proofs.YtccnfbjdpgmlhaaGreatDoorW.PrintWords Go.Proofs.YtccnfbjdpgmlhaaGreatDoorW.PrintLast Go.Proofs.YtccnfbjdpgmlhaaGreatDoorW.PrintMore
set_option linter.unusedVariables false
set_option linter.unusedSimpArgs false

/-- a chest's cells. -/
theorem ChestAt.cells {w : World} {base c : Nat} {v : Value} {P : List Page} {a : Nat} (h : ChestAt w base c v P a) :
    ∃ A cap, v = .slice A P.length cap ∧ P.length ≤ cap ∧ Kd.C kPg w A P.length (P.map Page.pg) ∧ w.cell? ⟨c, 0, none⟩ = some (.slice A P.length cap) ∧ w.cell? ⟨c, 1, none⟩ = some (.int .i64 a) ∧ w.frozen? ⟨c, 0, none⟩ = false ∧ w.frozen? ⟨c, 1, none⟩ = false := by
  obtain ⟨A, cap, rfl, hl, hC⟩ := Kd.R_reads h.2.2.1
  rw [List.length_map] at hl hC
  have h1 := h.1
  rw [List.length_map] at h1
  exact ⟨A, cap, by rw [List.length_map], hl, hC, blk_cell h1 0, blk_cell h1 1, blk_frozen h.1 0, blk_frozen h.1 1⟩

theorem none_calls (c : Nat) (v : Value) (P : List Page) (a base : Nat) (w : World) (h : ChestAt w base c v P a) (hP : 0 < P.length) :
    Calls Tryz.prog 28 #[.pointer (some ⟨c, 0, none⟩)] w fun e w' => e = .returned (.bool false) ∧ w = w' := by
  obtain ⟨A, cap, rfl, hl, hC, h0, h1, f0, f1⟩ := h.cells
  have hb : ((P.length : Int) == 0) = false := by simp; intro h; rw [h] at hP; simp at hP
  clear h hC
  go_enter Tryz.func28, Tryz.ntmps28
  go_wp2
  go_ret
  exact ⟨rfl, rfl⟩
theorem none_nil (w : World) :
    Calls Tryz.prog 28 #[.pointer none] w fun e w' => e = .returned (.bool true) ∧ w = w' := by
  go_enter Tryz.func28, Tryz.ntmps28
  go_wp2
  go_ret
  exact ⟨rfl, rfl⟩
theorem none_empty (c : Nat) (w : World) (h : w.cell? ⟨c, 0, none⟩ = some (.slice none 0 0)) :
    Calls Tryz.prog 28 #[.pointer (some ⟨c, 0, none⟩)] w fun e w' => e = .returned (.bool true) ∧ w = w' := by
  go_enter Tryz.func28, Tryz.ntmps28
  go_wp2
  go_ret
  exact ⟨rfl, rfl⟩

theorem At_calls (c : Nat) (v : Value) (P : List Page) (a base : Nat) (w : World) (h : ChestAt w base c v P a) (hP : 0 < P.length) :
    Calls Tryz.prog 15 #[.pointer (some ⟨c, 0, none⟩)] w fun e w' => e = .returned (.int .i64 a) ∧ w = w' := by
  have hn := none_calls c v P a base w h hP
  obtain ⟨A, cap, rfl, hl, hC, h0, h1, f0, f1⟩ := h.cells
  clear h hC
  go_enter Tryz.func15, Tryz.ntmps15
  go_wp2_with (go_at_call 28; (with_reducible refine hn.mono ?_); rintro e w' ⟨rfl, rfl⟩)
  go_ret
  exact ⟨rfl, rfl⟩

set_option maxHeartbeats 1000000 in
theorem now_calls (c : Nat) (v : Value) (P : List Page) (a base : Nat) (w : World) (h : ChestAt w base c v P a) (ha : a < P.length) :
    Calls Tryz.prog 29 #[.pointer (some ⟨c, 0, none⟩)] w fun e w' => e = .returned (.pointer (some ⟨(P.getD a default).ptr, 0, none⟩)) ∧ Below w.heap.size w w' := by
  obtain ⟨A, cap, rfl, hl, hC, h0, h1, f0, f1⟩ := h.cells
  obtain ⟨ad, rfl, hx0, hx1, hx2⟩ := at_pg hC (a : Int) (by omega) (by omega)
  have e : ((P.map Page.pg).getD a default).ptr = (P.getD a default).ptr := by
    rw [List.getD_eq_getElem?_getD, List.getD_eq_getElem?_getD, List.getElem?_map, List.getElem?_eq_getElem ha]; rfl
  rw [Int.toNat_natCast] at hx2
  rw [e] at hx2
  generalize (P.getD a default).ptr = q at hx2
  have ha0 : (0 : Int) ≤ (a : Int) := by omega
  have ha1 : (a : Int) < (P.length : Int) := by omega
  clear h hC hx0 hx1 e
  go_enter Tryz.func29, Tryz.ntmps29
  go_wp2_with (fail)
  go_quiet (fail)
  go_wp2
  go_ret
  exact ⟨rfl, pw_below_drewN (Below.refl _ _) _⟩

def inP (n : Nat) (x : Int) : Bool := decide (0 ≤ x ∧ x < (n : Int))
theorem has1_calls (x : Int) (b c : Nat) (v : Value) (P : List Page) (a base : Nat) (w : World) (h : ChestAt w base c v P a) (hb : w.cell? ⟨b, 0, none⟩ = some (.pointer (some ⟨c, 0, none⟩))) :
    Calls Tryz.prog 62 #[.int .i64 x, .pointer (some ⟨b, 0, none⟩)] w fun e w' => e = .returned (.bool (!inP P.length x)) ∧ w = w' := by
  obtain ⟨A, cap, rfl, hl, hC, h0, h1, f0, f1⟩ := h.cells
  clear h hC
  by_cases c1 : x < 0
  · have E : Aside0 (inP P.length x = false) := ⟨decide_eq_false (by omega)⟩
    go_enter Tryz.func62, Tryz.ntmps62
    go_wp2
    go_ret
    exact ⟨by rw [E.out]; rfl, rfl⟩
  · by_cases c2 : (P.length : Int) ≤ x
    · have E : Aside0 (inP P.length x = false) := ⟨decide_eq_false (by omega)⟩
      go_enter Tryz.func62, Tryz.ntmps62
      go_wp2
      go_ret
      exact ⟨by rw [E.out]; rfl, rfl⟩
    · have E : Aside0 (inP P.length x = true) := ⟨decide_eq_true (by omega)⟩
      go_enter Tryz.func62, Tryz.ntmps62
      go_wp2
      go_ret
      exact ⟨by rw [E.out]; rfl, rfl⟩

set_option maxHeartbeats 1000000 in
theorem has_calls (c : Nat) (v : Value) (P : List Page) (a base : Nat) (A : Option Addr) (cap : Nat) (l : List Int) (w : World) (h : ChestAt w base c v P a)
    (hr : Kd.C (Kd.int .i64) w A l.length l) (hc : l.length ≤ cap) (hbig : l.length ≤ 9223372036854775807) :
    Calls Tryz.prog 33 #[.pointer (some ⟨c, 0, none⟩), .slice A l.length cap] w fun e w' => e = .returned (.bool (l.all (inP P.length))) ∧ Below w.heap.size w w' := by
  have hb : Below w.heap.size w (w.alloc (.cells #[.pointer (some ⟨c, 0, none⟩)] 22)) := (Below.refl _ _).alloc (Nat.le_refl _) _
  have hcell : (w.alloc (.cells #[.pointer (some ⟨c, 0, none⟩)] 22)).cell? ⟨w.heap.size, 0, none⟩ = some (.pointer (some ⟨c, 0, none⟩)) := by simp
  have hcall := any_int 62 #[.pointer (some ⟨w.heap.size, 0, none⟩)] (fun x => !inP P.length x) A cap l (w.alloc (.cells #[.pointer (some ⟨c, 0, none⟩)] 22))
    (enters_of Tryz.func62 (by kernel_rfl) rfl)
    (fun W x hx hB => (has1_calls x w.heap.size c v P a base W (h.below (hb.trans (hB.mono (by simp)))) ((hB.cell (p := ⟨w.heap.size, 0, none⟩) (by simp)).trans hcell)).mono fun e w' ⟨he, hw⟩ => ⟨he, by rw [← hw]; exact Below.refl _ _⟩)
    (Kd.C_below hr hb) hc hbig
  have HE : Aside0 ((!(l.any (fun x => !inP P.length x))) = l.all (inP P.length)) := ⟨by rw [List.all_eq_not_any_not]⟩
  have HB := Aside0.mk hb
  clear hcell hr h hb
  go_enter Tryz.func33, Tryz.ntmps33
  go_wp2_with (go_at_call 61; (with_reducible refine hcall.mono ?_); rintro e w' ⟨rfl, hb'⟩)
  go_ret
  exact ⟨by rw [← HE.out]; rfl, HB.out.trans (hb'.mono (by simp))⟩

theorem ints_at (g n : Nat) (l : List Int) (w : World) (hn : l.length = n) (hbig : n ≤ 1000) (hc : ∀ j, j < n → w.cell? ⟨g, j, none⟩ = some (.int .i64 (l.getD j 0))) : Kd.C (Kd.int .i64) w (some ⟨g, 0, none⟩) l.length l :=
  Kd.C_of_reads (d := (0 : Int)) ⟨rfl, by omega, fun _ => ⟨_, rfl, fun j hj => by rw [add_plain]; exact hc j (by omega)⟩⟩
theorem has_one (c : Nat) (v : Value) (P : List Page) (a base : Nat) (x : Int) (g : Nat) (w : World) (h : ChestAt w base c v P a) (hx : w.cell? ⟨g, 0, none⟩ = some (.int .i64 x)) :
    Calls Tryz.prog 33 #[.pointer (some ⟨c, 0, none⟩), .slice (some ⟨g, 0, none⟩) 1 1] w fun e w' => e = .returned (.bool (inP P.length x)) ∧ Below w.heap.size w w' := by
  have := has_calls c v P a base (some ⟨g, 0, none⟩) 1 [x] w h (ints_at g 1 [x] w rfl (by omega) (fun j hj => by rcases (show j = 0 by omega) with rfl; exact hx)) (by simp) (by simp)
  simpa using this
theorem has_two (c : Nat) (v : Value) (P : List Page) (a base : Nat) (x y : Int) (g : Nat) (w : World) (h : ChestAt w base c v P a) (hx : w.cell? ⟨g, 0, none⟩ = some (.int .i64 x)) (hy : w.cell? ⟨g, 1, none⟩ = some (.int .i64 y)) :
    Calls Tryz.prog 33 #[.pointer (some ⟨c, 0, none⟩), .slice (some ⟨g, 0, none⟩) 2 2] w fun e w' => e = .returned (.bool (inP P.length x && inP P.length y)) ∧ Below w.heap.size w w' := by
  have := has_calls c v P a base (some ⟨g, 0, none⟩) 2 [x, y] w h (ints_at g 2 [x, y] w rfl (by omega) (fun j hj => by
    rcases (show j = 0 ∨ j = 1 by omega) with rfl | rfl
    · exact hx
    · exact hy)) (by simp) (by simp)
  simpa using this

/-- what a method on the chest leaves: all that lay below base, and all blocks but the chest's own and its pages'. -/
def Left (w : World) (base c : Nat) (v : Value) (w' : World) : Prop := Below base w w' ∧ KeepBut w w' c v.ownBlock
theorem Left.refl (w : World) (base c : Nat) (v : Value) : Left w base c v w := ⟨Below.refl _ _, KeepBut.refl _ _ _⟩
theorem Left.of_below {w w' : World} {base c : Nat} {v : Value} (h : Below w.heap.size w w') (hb : base ≤ w.heap.size) : Left w base c v w' := ⟨h.mono hb, KeepBut.of_below h _ _⟩

theorem Go_calls (c : Nat) (v : Value) (P : List Page) (a base : Nat) (x : Int) (w : World) (h : ChestAt w base c v P a) (hP : 0 < P.length) (hbs : base ≤ w.heap.size) :
    Calls Tryz.prog 13 #[.pointer (some ⟨c, 0, none⟩), .int .i64 x] w fun e w' => e = .returned (.int .i64 (if inP P.length x = true then 0 else 2)) ∧
      ChestAt w' base c v P (if inP P.length x = true then x.toNat else a) ∧ Left w base c v w' := by
  have hn := none_calls c v P a base w h hP
  have hb1 : Below w.heap.size w (w.alloc (.cells #[.int .i64 x] 3)) := (Below.refl _ _).alloc (Nat.le_refl _) _
  have hh := has_one c v P a base x w.heap.size (w.alloc (.cells #[.int .i64 x] 3)) (h.below hb1) (by simp)
  have H := Aside0.mk h
  have HB := Aside0.mk hb1
  obtain ⟨A, cap, rfl, hl, hC, h0, h1, f0, f1⟩ := h.cells
  have hcl : c < w.heap.size := World.block_lt_of_cell? w _ h0
  clear h hC hb1
  cases hi : inP P.length x with
  | false =>
    rw [hi] at hh
    simp only [Bool.false_eq_true, if_false]
    clear hi
    go_enter Tryz.func13, Tryz.ntmps13
    go_wp2_with (first | (go_at_call 28; (with_reducible refine hn.mono ?_); rintro e w' ⟨rfl, rfl⟩) | (go_at_call 33; (with_reducible refine hh.mono ?_); rintro e w1 ⟨rfl, hb'⟩))
    go_ret
    have hb2 := HB.out.trans (hb'.mono (by simp))
    exact ⟨rfl, H.out.below hb2, Left.of_below hb2 hbs⟩
  | true =>
    rw [hi] at hh
    simp only [if_true]
    have hx : ((x.toNat : Nat) : Int) = x := by
      have := of_decide_eq_true hi
      omega
    have HX := Aside0.mk hx
    clear hi hx
    go_enter Tryz.func13, Tryz.ntmps13
    go_wp2_with (first | (go_at_call 28; (with_reducible refine hn.mono ?_); rintro e w' ⟨rfl, rfl⟩) | (go_at_call 33; (with_reducible refine hh.mono ?_); rintro e w1 ⟨rfl, hb'⟩; have hb2 := Aside0.mk (HB.out.trans (hb'.mono (by simp))); have g1 := (hb2.out.cell (p := ⟨c, 1, none⟩) hcl).trans h1; have q1 := (hb2.out.frozen (p := ⟨c, 1, none⟩) hcl).trans f1; have hcl1 : c < w1.heap.size := Nat.lt_of_lt_of_le hcl hb2.out.size))
    go_ret
    have h2 := (H.out.below hb2.out).setAt x.toNat
    rw [HX.out] at h2
    exact ⟨rfl, h2, (hb2.out.mono hbs).setCell (p := ⟨c, 1, none⟩) H.out.2.1 _, (KeepBut.of_below hb2.out _ _).set_ 1 _⟩
end Go.Proofs.YtccnfbjdpgmlhaaGreatDoor

namespace Go.Proofs.YtccnfbjdpgmlhaaGreatDoor
open Go.RowKit Go.Proofs.YtccnfbjdpgmlhaaGreatDoorW.PrintWords Go.Proofs.YtccnfbjdpgmlhaaGreatDoorW.PrintLast Go.Proofs.YtccnfbjdpgmlhaaGreatDoorW.PrintMore
set_option linter.unusedVariables false
set_option linter.unusedSimpArgs false

theorem infoInt : (Tryz.prog.info? 3).map (fun i => (i.zero, i.size, i.bytes)) = some (some (.int .i64 0), 1, 8) := by kernel_rfl
theorem infoStr : (Tryz.prog.info? 9).map (fun i => (i.zero, i.size, i.bytes)) = some (some (.string ByteArray.empty), 1, 16) := by kernel_rfl
theorem infoLeaf : (Tryz.prog.info? 96).map (fun i => (i.zero, i.size, i.bytes)) = some (some (.agg #[.string ByteArray.empty, .int .i64 0]), 2, 24) := by kernel_rfl
theorem infoOff : (Tryz.prog.info? 72).map (fun i => (i.zero, i.size, i.bytes)) = some (some (.agg #[.int .i64 0, .int .i64 0]), 2, 16) := by kernel_rfl
theorem infoPage : (Tryz.prog.info? 65).map (fun i => (i.zero, i.size, i.bytes)) = some (some (.agg #[.string ByteArray.empty, .int .i64 0, .pointer none]), 3, 32) := by kernel_rfl

/-- Reverse of a row of the call's own. -/
theorem reverse_calls (v : Value) (xs : List Int) (base : Nat) (w : World) (h : Kd.R (Kd.int .i64) 3 w base Tt v xs) (hl : xs.length ≤ 1000) :
    Calls Tryz.prog 37 #[v] w fun e w' => e = .returned (.tuple #[]) ∧ Kd.R (Kd.int .i64) 3 w' base Tt v xs.reverse ∧ Below base w w' := by
  have ho := Kd.own_of_R h
  by_cases hv : v = .slice none 0 0
  · subst hv
    have hx : xs = [] := by
      have := ho.1
      rcases ho.2 with ⟨_, h2⟩ | ⟨g, cap, cur, h2, _⟩
      · exact List.eq_nil_of_length_eq_zero h2
      · cases h2
    subst hx
    refine (Tryz.slices_Reverse_int_empty none 0 w).mono ?_
    rintro e w' ⟨he, rfl⟩
    exact ⟨he, h, Below.refl _ _⟩
  · obtain ⟨g, cap, rfl, hg, hgl, hn, hm, hz, hH⟩ := Lib.holds_of_ownsRow ho hv
    refine (Tryz.slices_Reverse_int g 0 cap xs w hH (by omega)).mono ?_
    rintro e w' ⟨he, n, rfl⟩
    refine ⟨he, ?_, Lib.below_putRow (Below.refl _ _) hg⟩
    have h2 := Lib.ownsRow_putRow (q := n) (k := xs.length) (ys := xs.reverse) ho (by simp) (Nat.le_refl _)
    rw [List.take_of_length_le (by simp)] at h2
    refine Kd.R_of_own ?_ (fun _ _ => trivial)
    rw [List.length_reverse]
    exact h2

/-- the pages from p up to page 0, without it. -/
def upF (P : List Page) : Nat → Nat → List Nat
  | 0, _ => []
  | f + 1, p => if p = 0 then [] else p :: upF P f (P.getD p default).parent
def up (P : List Page) (p : Nat) : List Nat := upF P p p
/-- each page's parent is before it. -/
def Tree (P : List Page) : Prop := ∀ i, 0 < i → i < P.length → (P.getD i default).parent < i
theorem upF_eq (P : List Page) (hT : Tree P) : ∀ (f p : Nat), p ≤ f → p < P.length → upF P f p = up P p := by
  intro f
  induction f using Nat.strongRecOn with
  | ind f ih =>
    intro p hp hl
    unfold up
    cases f with
    | zero => obtain rfl : p = 0 := by omega
              rfl
    | succ f =>
      cases p with
      | zero => simp [upF]
      | succ p =>
        have h := hT (p + 1) (by omega) hl
        simp only [upF]
        rw [if_neg (by omega), if_neg (by omega)]
        rw [ih f (by omega) _ (by omega) (by omega), ih p (by omega) _ (by omega) (by omega)]
theorem up_zero (P : List Page) : up P 0 = [] := rfl
theorem up_step (P : List Page) (hT : Tree P) (p : Nat) (h0 : 0 < p) (hl : p < P.length) : up P p = p :: up P (P.getD p default).parent := by
  have h := hT p h0 hl
  cases p with
  | zero => omega
  | succ p =>
    conv => lhs; unfold up
    simp only [upF]
    rw [if_neg (by omega), upF_eq P hT p _ (by omega) (by omega)]
theorem up_length (P : List Page) (hT : Tree P) : ∀ p, p < P.length → (up P p).length ≤ p := by
  intro p
  induction p using Nat.strongRecOn with
  | ind p ih =>
    intro hl
    rcases Nat.eq_zero_or_pos p with h | h
    · subst h; simp [up_zero]
    · rw [up_step P hT p h hl, List.length_cons]
      have := hT p h hl
      have := ih _ this (by omega)
      omega
def wayP (P : List Page) (p : Nat) : List Nat := (up P p).reverse
def toI (l : List Nat) : List Int := l.map (fun (x : Nat) => (x : Int))
theorem toI_snoc (l : List Nat) (p : Nat) : toI l ++ [(p : Int)] = toI (l ++ [p]) := by simp [toI]
theorem toI_length (l : List Nat) : (toI l).length = l.length := by simp [toI]
theorem toI_reverse (l : List Nat) : (toI l).reverse = toI l.reverse := by simp [toI]
def WayR (P : List Page) (t : Nat) (w : World) (e : Ending) (w' : World) : Prop := ∃ v, e = .returned v ∧ Kd.R (Kd.int .i64) 3 w' w.heap.size Tt v (toI (wayP P t)) ∧ Below w.heap.size w w'

set_option maxHeartbeats 2000000 in
theorem way_calls (c : Nat) (v : Value) (P : List Page) (a base t : Nat) (w : World) (h : ChestAt w base c v P a) (hT : Tree P) (ht : t < P.length) (hP : P.length ≤ 200) :
    Calls Tryz.prog 35 #[.pointer (some ⟨c, 0, none⟩), .int .i64 t] w (WayR P t w) := by
  obtain ⟨A, cap, rfl, hl, hC, h0, h1, f0, f1⟩ := h.cells
  have HC := Aside0.mk hC
  have H0 := Aside0.mk h0
  have HT := Aside0.mk hT
  have hcl : c < w.heap.size := World.block_lt_of_cell? w _ h0
  clear h hC h0 h1 f0 f1 hT
  go_enter Tryz.func35, Tryz.ntmps35
  go_wp2
  go_loopg [5, 6] t (fun gg s5 s6 W => ∃ (p : Nat) (acc : List Nat), s6 = .int .i64 p ∧ p < P.length ∧ Aside0 (p ≤ gg) ∧ Aside0 (acc ++ up P p = up P t) ∧ Aside0 (Kd.R (Kd.int .i64) 3 W w.heap.size Tt s5 (toI acc)) ∧ Aside0 (Below w.heap.size w W))
  case atStart => exact ⟨t, [], rfl, ht, ⟨Nat.le_refl _⟩, ⟨rfl⟩, ⟨(Kd.R_nil (Kd.int .i64) 3 w w.heap.size Tt : Kd.R (Kd.int .i64) 3 w w.heap.size Tt (.slice none 0 0) (toI []))⟩, ⟨Below.refl _ _⟩⟩
  case round =>
    obtain ⟨p, acc, rfl, hp, hgp, HE, HR, BW⟩ := hrel
    have g0 := (BW.out.cell (p := ⟨c, 0, none⟩) hcl).trans H0.out
    rcases Nat.eq_zero_or_pos p with hz | hz
    · have hzb : ((p : Int) != 0) = false := by simp [hz]
      have E : Aside0 (acc = up P t) := ⟨by have := HE.out; rw [hz, up_zero, List.append_nil] at this; exact this⟩
      have hrev := fun (W : World) (hR : Kd.R (Kd.int .i64) 3 W w.heap.size Tt u5 (toI acc)) => reverse_calls u5 (toI acc) w.heap.size W hR (by rw [toI_length, E.out]; have := up_length P HT.out t ht; omega)
      have HREV := Aside0.mk hrev
      clear hz hrev
      go_wp2_with (go_at_call 37; have hc0 := HREV.out _ HR.out; (with_reducible refine hc0.mono ?_); rintro e w2 ⟨rfl, hR2, hb2⟩; have HR2 := Aside0.mk hR2; have HB2 := Aside0.mk hb2; clear hc0 hR2 hb2)
      go_ret
      exact ⟨u5, rfl, by have := HR2.out; rw [toI_reverse, E.out] at this; exact this, BW.out.trans HB2.out⟩
    · have hzb : ((p : Int) != 0) = true := by simp; omega
      have hpp : (P.getD p default).parent < p := HT.out p hz hp
      have HU : Aside0 (up P p = p :: up P (P.getD p default).parent) := ⟨up_step P HT.out p hz hp⟩
      obtain ⟨ad, rfl, hx0, hx1, hx2⟩ := at_pg HC.out (p : Int) (by omega) (by omega)
      have e : ((P.map Page.pg).getD p default).parent = ((P.getD p default).parent : Int) := by
        rw [List.getD_eq_getElem?_getD, List.getD_eq_getElem?_getD, List.getElem?_map, List.getElem?_eq_getElem hp]; rfl
      rw [Int.toNat_natCast, e] at hx1
      have hbl : (ad.add (p * 3)).block < w.heap.size := World.block_lt_of_cell? w _ hx0
      have HX := Aside0.mk hx1
      generalize (P.getD p default).parent = q at HX hpp HU
      have hp0 : (0 : Int) ≤ (p : Int) := by omega
      have hp1 : (p : Int) < (P.length : Int) := by omega
      have hacc : acc.length ≤ 200 := by have h1 := congrArg List.length HE.out; rw [List.length_append] at h1; have := up_length P HT.out t ht; omega
      clear hx0 hx1 hx2 e
      go_wp2_with (at_builtin; refine Kd.R_append (Kd.int .i64) (w0 := w) w.heap.size rfl (.tmp 18) (.tmp 20) 37 3 (.int .i64 0) 8 rfl Tryz.underlying37 infoInt rfl (by decide) (by omega) u5 (toI acc) (p : Int) [.int .i64 p] Tt (fun _ => False) rfl (by first | (go_simp; done) | (go_simp; rfl)) rfl (fun _ hk => hk.elim) (fun _ _ => trivial) HR.out BW.out BW.out.size (by rw [toI_length]; omega) ?_; intro v1 w2 hR2 hb2 hg2 hat2; have HR2 := Aside0.mk hR2; have HB2 := Aside0.mk hb2; have k0 := (HB2.out.cell (p := ⟨c, 0, none⟩) hcl).trans H0.out; have k1 := (HB2.out.cell (p := ⟨(ad.add (p * 3)).block, (ad.add (p * 3)).off + 1, none⟩) hbl).trans HX.out; clear hR2 hb2 hg2 hat2)
      go_roundg q
      case measure => have := hgp.out; omega
      case rel => exact ⟨q, acc ++ [p], rfl, by omega, ⟨Nat.le_refl _⟩, ⟨by rw [List.append_assoc]; show acc ++ (p :: up P q) = _; rw [← HU.out]; exact HE.out⟩, ⟨by rw [← toI_snoc]; exact HR2.out⟩, HB2⟩
end Go.Proofs.YtccnfbjdpgmlhaaGreatDoor

namespace Go.Proofs.YtccnfbjdpgmlhaaGreatDoor
open Go.RowKit Go.Proofs.YtccnfbjdpgmlhaaGreatDoorW.PrintWords Go.Proofs.YtccnfbjdpgmlhaaGreatDoorW.PrintLast Go.Proofs.YtccnfbjdpgmlhaaGreatDoorW.PrintMore
set_option linter.unusedVariables false
set_option linter.unusedSimpArgs false

/-- what a chest is: each page's parent is before it, at most 200 pages, it is at one of them. -/
structure Ok (P : List Page) (a : Nat) : Prop where
  tree : Tree P
  most : P.length ≤ 200
  at_ : a < P.length
def par (P : List Page) (p : Nat) : Nat := (P.getD p default).parent
def backP (P : List Page) : Nat → Nat → Nat
  | 0, p => p
  | n + 1, p => backP P n (par P p)
theorem backP_succ (P : List Page) : ∀ (n p : Nat), backP P (n + 1) p = par P (backP P n p) := by
  intro n
  induction n with
  | zero => intro p; rfl
  | succ n ih => intro p; rw [backP, ih, backP]
theorem up_par (P : List Page) (hT : Tree P) (p : Nat) (h0 : 0 < p) (hl : p < P.length) : up P p = p :: up P (par P p) := up_step P hT p h0 hl
theorem backP_up (P : List Page) (hT : Tree P) : ∀ (n p : Nat), p < P.length → n ≤ (up P p).length → backP P n p < P.length ∧ up P (backP P n p) = (up P p).drop n := by
  intro n
  induction n with
  | zero => intro p hp _; exact ⟨hp, by simp [backP]⟩
  | succ n ih =>
    intro p hp hn
    rcases Nat.eq_zero_or_pos p with h | h
    · subst h; simp [up_zero] at hn
    · rw [up_par P hT p h hp] at hn ⊢
      have hlt := hT p h hp
      have := ih (par P p) (by unfold par; omega) (by simp at hn; omega)
      exact ⟨this.1, by rw [backP, this.2]; rfl⟩

def BackE (P : List Page) (a : Nat) (x : Int) : Int := if x < 0 then 2 else if ((up P a).length : Int) < x then 4 else 0
def BackA (P : List Page) (a : Nat) (x : Int) : Nat := if x < 0 then a else if ((up P a).length : Int) < x then a else backP P x.toNat a
theorem wayP_length (P : List Page) (a : Nat) : (toI (wayP P a)).length = (up P a).length := by simp [toI, wayP]

def BackR (c : Nat) (v : Value) (P : List Page) (a base : Nat) (x : Int) (w : World) (e : Ending) (w' : World) : Prop :=
  e = .returned (.int .i64 (BackE P a x)) ∧ ChestAt w' base c v P (BackA P a x) ∧ Left w base c v w'

set_option maxHeartbeats 4000000 in
theorem Back_calls (c : Nat) (v : Value) (P : List Page) (a base : Nat) (x : Int) (w : World) (h : ChestAt w base c v P a) (hO : Ok P a) (hbs : base ≤ w.heap.size) (hx : x ≤ 9223372036854775807) :
    Calls Tryz.prog 14 #[.pointer (some ⟨c, 0, none⟩), .int .i64 x] w (BackR c v P a base x w) := by
  have hat := hO.at_
  have hn := none_calls c v P a base w h (by omega)
  have hw := way_calls c v P a base a w h hO.tree hO.at_ hO.most
  have H := Aside0.mk h
  have HO := Aside0.mk hO
  obtain ⟨A, cap, hv, hl, hC, h0, h1, f0, f1⟩ := h.cells
  have hcl : c < w.heap.size := World.block_lt_of_cell? w _ h0
  have HW := Aside0.mk hw
  have HV := Aside0.mk hv
  clear h hC hO hw hv
  by_cases c1 : x < 0
  · have E : Aside0 (BackE P a x = 2 ∧ BackA P a x = a) := ⟨by unfold BackE BackA; rw [if_pos c1, if_pos c1]; exact ⟨rfl, rfl⟩⟩
    go_enter Tryz.func14, Tryz.ntmps14
    go_wp2_with (go_at_call 28; (with_reducible refine hn.mono ?_); rintro e w' ⟨rfl, rfl⟩)
    go_ret
    exact ⟨by rw [E.out.1]; rfl, by rw [E.out.2]; exact H.out, Left.refl _ _ _ _⟩
  · by_cases c2 : ((up P a).length : Int) < x
    · have E : Aside0 (BackE P a x = 4 ∧ BackA P a x = a) := ⟨by unfold BackE BackA; rw [if_neg c1, if_neg c1, if_pos c2, if_pos c2]; exact ⟨rfl, rfl⟩⟩
      go_enter Tryz.func14, Tryz.ntmps14
      go_wp2_with (first | (go_at_call 28; (with_reducible refine hn.mono ?_); rintro e w' ⟨rfl, rfl⟩) | (go_at_call 35; (with_reducible refine HW.out.mono ?_); rintro e w1 ⟨v1, rfl, hR1, hb1⟩; have HR1 := Aside0.mk hR1; have HB1 := Aside0.mk hb1; clear hR1 hb1; obtain ⟨A1, c1', rfl, hl1, hC1⟩ := Kd.R_reads HR1.out; rw [wayP_length]; clear hC1 hl1))
      go_ret
      exact ⟨by rw [E.out.1]; rfl, by rw [E.out.2]; exact H.out.below HB1.out, Left.of_below HB1.out hbs⟩
    · obtain ⟨n, rfl⟩ : ∃ n : Nat, x = n := ⟨x.toNat, by omega⟩
      have hn2 : n ≤ (up P a).length := by omega
      have E : Aside0 (BackE P a n = 0 ∧ BackA P a n = backP P n a) := ⟨by unfold BackE BackA; rw [if_neg c1, if_neg c1, if_neg c2, if_neg c2]; exact ⟨rfl, rfl⟩⟩
      go_enter Tryz.func14, Tryz.ntmps14
      go_wp2_with (first | (go_at_call 28; (with_reducible refine hn.mono ?_); rintro e w' ⟨rfl, rfl⟩) | (go_at_call 35; (with_reducible refine HW.out.mono ?_); rintro e w1 ⟨v1, rfl, hR1, hb1⟩; have HR1 := Aside0.mk hR1; have HB1 := Aside0.mk hb1; clear hR1 hb1; obtain ⟨A1, c1', rfl, hl1, hC1⟩ := Kd.R_reads HR1.out; rw [wayP_length]; clear hC1 hl1))
      have hcw : c < w1.heap.size := Nat.lt_of_lt_of_le hcl HB1.out.size
      go_loopg [22] n (fun gg s22 W => ∃ k : Nat, k ≤ n ∧ Aside0 (n - k ≤ gg) ∧ s22 = .int .i64 k ∧ Aside0 (ChestAt W base c v P (backP P k a)) ∧ Aside0 (Left w base c v W))
      case atStart => exact ⟨0, Nat.zero_le _, ⟨by omega⟩, rfl, ⟨H.out.below HB1.out⟩, ⟨Left.of_below HB1.out hbs⟩⟩
      case round =>
        obtain ⟨k, hk, hgk, rfl, HC, HL⟩ := hrel
        by_cases hlt : k < n
        · have hltz : (k : Int) < (n : Int) := by omega
          obtain ⟨A2, cap2, hv2, hl2, hC2, g0, g1, q0, q1⟩ := HC.out.cells
          have hb := (backP_up P HO.out.tree k a HO.out.at_ (by omega)).1
          have hs := backP_succ P k a
          obtain ⟨ad, rfl, hx0, hx1, hx2⟩ := at_pg hC2 (backP P k a : Int) (by omega) (by omega)
          have e : ((P.map Page.pg).getD (backP P k a) default).parent = (par P (backP P k a) : Int) := by
            rw [List.getD_eq_getElem?_getD, List.getElem?_map, List.getElem?_eq_getElem hb]; unfold par; rw [List.getD_eq_getElem?_getD, List.getElem?_eq_getElem hb]; rfl
          rw [Int.toNat_natCast, e] at hx1
          have HS := Aside0.mk hs
          have HV2 := Aside0.mk hv2
          clear hx0 hx2 e hs hv2 hC2
          generalize par P (backP P k a) = q at hx1 HS
          generalize backP P k a = b at *
          have hb0 : (0 : Int) ≤ (b : Int) := by omega
          have hb1 : (b : Int) < (P.length : Int) := by omega
          go_wp2_with (fail)
          go_region
          go_wp2
          go_roundg (n - (k + 1))
          case measure => have := hgk.out; omega
          case rel => exact ⟨k + 1, by omega, ⟨by omega⟩, by go_num, ⟨by rw [HS.out]; exact (HC.out.setAt q).below (below_drew (Below.refl _ _))⟩, ⟨below_drew (HL.out.1.setCell (p := ⟨c, 1, none⟩) HC.out.2.1 _), HL.out.2.set_ 1 _⟩⟩
        · have hltz : ¬ (k : Int) < (n : Int) := by omega
          go_wp2
          go_ret
          obtain rfl : k = n := by omega
          exact ⟨by rw [E.out.1]; rfl, by rw [E.out.2]; exact HC.out, HL.out⟩
end Go.Proofs.YtccnfbjdpgmlhaaGreatDoor

namespace Go.Proofs.YtccnfbjdpgmlhaaGreatDoor
open Go.RowKit Go.Proofs.YtccnfbjdpgmlhaaGreatDoorW.PrintWords Go.Proofs.YtccnfbjdpgmlhaaGreatDoorW.PrintLast Go.Proofs.YtccnfbjdpgmlhaaGreatDoorW.PrintMore
set_option linter.unusedVariables false
set_option linter.unusedSimpArgs false

/-- the last page on both ways, and what is left of the second way. -/
def forkF : List Nat → List Nat → Nat → Nat × List Nat
  | x :: xs, y :: ys, a => if x = y then forkF xs ys x else (a, y :: ys)
  | [], ys, a => (a, ys)
  | _ :: _, [], a => (a, [])
def forkP (P : List Page) (x y : Nat) : Nat × List Nat := forkF (wayP P x) (wayP P y) 0
def ReadsN (w : World) (A : Option Addr) (c : Nat) (xs : List Nat) : Prop := ReadsInt w .i64 A xs.length (toI xs) ∧ xs.length ≤ c
theorem reads_of_R {w : World} {base : Nat} {v : Value} {xs : List Nat} (h : Kd.R (Kd.int .i64) 3 w base Tt v (toI xs)) : ∃ A c, v = .slice A xs.length c ∧ ReadsN w A c xs := by
  obtain ⟨A, c, rfl, hl, hC⟩ := Kd.R_reads h
  rw [toI_length] at hl hC ⊢
  exact ⟨A, c, rfl, readsInt_of.mpr (Kd.reads_of_C (d := (0 : Int)) hC), hl⟩
theorem ReadsN.below {w w' : World} {A : Option Addr} {c : Nat} {xs : List Nat} (h : ReadsN w A c xs) (hb : Below w.heap.size w w') : ReadsN w' A c xs := ⟨h.1.below hb, h.2⟩
def ForkR (P : List Page) (x y : Nat) (w : World) (e : Ending) (w' : World) : Prop :=
  ∃ A c, e = .returned (.tuple #[.int .i64 (forkP P x y).1, .slice A (forkP P x y).2.length c]) ∧ ReadsN w' A c (forkP P x y).2 ∧ Below w.heap.size w w'
/-- the rest of a way in memory, and the way's own row, of which it is a part. -/
def RestR (base : Nat) (W : World) (way : List Nat) (A2 : Option Addr) (c2 : Nat) (B2 : Option Addr) (d2 : Nat) (ys : List Nat) : Prop :=
  ReadsN W B2 d2 ys ∧ Kd.R (Kd.int .i64) 3 W base Tt (.slice A2 way.length c2) (toI way) ∧ ∀ W', ReadsN W' A2 c2 way → ReadsN W' B2 d2 ys
theorem RestR.below {base : Nat} {W W' : World} {way : List Nat} {A2 : Option Addr} {c2 : Nat} {B2 : Option Addr} {d2 : Nat} {ys : List Nat} (h : RestR base W way A2 c2 B2 d2 ys) (hb : Below W.heap.size W W') : RestR base W' way A2 c2 B2 d2 ys :=
  ⟨h.1.below hb, Kd.R_below h.2.1 hb, h.2.2⟩
def ForkR2 (P : List Page) (x y : Nat) (w : World) (e : Ending) (w' : World) : Prop :=
  ∃ A c, e = .returned (.tuple #[.int .i64 (forkP P x y).1, .slice A (forkP P x y).2.length c]) ∧ (∃ A2 c2, RestR w.heap.size w' (wayP P y) A2 c2 A c (forkP P x y).2) ∧ Below w.heap.size w w'

set_option maxHeartbeats 4000000 in
theorem fork_calls2 (c : Nat) (v : Value) (P : List Page) (a base x y : Nat) (w : World) (h : ChestAt w base c v P a) (hO : Ok P a) (hx : x < P.length) (hy : y < P.length) :
    Calls Tryz.prog 34 #[.pointer (some ⟨c, 0, none⟩), .int .i64 x, .int .i64 y] w (ForkR2 P x y w) := by
  have HX := Aside0.mk (way_calls c v P a base x w h hO.tree hx hO.most)
  have HY := Aside0.mk (fun (W : World) (hb : Below w.heap.size w W) => way_calls c v P a base y W (h.below hb) hO.tree hy hO.most)
  have HLX : Aside0 ((wayP P x).length ≤ 200) := ⟨by have := up_length P hO.tree x hx; have := hO.most; simp [wayP]; omega⟩
  have HLY : Aside0 ((wayP P y).length ≤ 200) := ⟨by have := up_length P hO.tree y hy; have := hO.most; simp [wayP]; omega⟩
  obtain ⟨i0, hi, hz0, hz1, hz2⟩ := info_parts infoInt
  have HI := Aside0.mk (And.intro hi hz1)
  clear h hO hi hz0 hz1 hz2
  go_enter Tryz.func34, Tryz.ntmps34
  go_wp2_with (go_at_call 35; first | ((with_reducible refine HX.out.mono ?_); rintro e w1 ⟨v1, rfl, hR1, hb1⟩; have HB1 := Aside0.mk hb1; have HR1 := Aside0.mk hR1; clear hR1 hb1) | ((with_reducible refine (HY.out _ HB1.out).mono ?_); rintro e w2 ⟨v2, rfl, hR2, hb2⟩; have HB2 := Aside0.mk hb2; have HR2 := Aside0.mk hR2; clear hR2 hb2; obtain ⟨A2, c2, rfl, hn2⟩ := reads_of_R HR2.out; have HN2 := Aside0.mk (show RestR w.heap.size w2 (wayP P y) A2 c2 A2 c2 (wayP P y) from ⟨hn2, Kd.R_lower HR2.out HB1.out.size, fun _ h => h⟩); clear hn2))
  obtain ⟨A1, c1, rfl, hn1⟩ := reads_of_R HR1.out
  have HN1 := Aside0.mk (hn1.below HB2.out)
  have HB := Aside0.mk (HB1.out.trans (HB2.out.mono HB1.out.size))
  clear hn1 HR1 HR2 HB1 HB2 HX HY
  go_loopg [6, 8, 9] 200 (fun gg s6 s8 s9 W => ∃ (t : Nat) (xs ys : List Nat) (B1 B2 : Option Addr) (d1 d2 : Nat), s6 = .int .i64 t ∧ s8 = .slice B1 xs.length d1 ∧ s9 = .slice B2 ys.length d2 ∧ Aside0 (xs.length ≤ gg) ∧ Aside0 (forkF xs ys t = forkP P x y) ∧ Aside0 (ReadsN W B1 d1 xs) ∧ Aside0 (RestR w.heap.size W (wayP P y) A2 c2 B2 d2 ys) ∧ Aside0 (Below w.heap.size w W))
  case atStart => exact ⟨0, wayP P x, wayP P y, A1, A2, c1, c2, rfl, rfl, rfl, HLX, ⟨rfl⟩, HN1, HN2, HB⟩
  case round =>
    obtain ⟨t, xs, ys, B1, B2, d1, d2, rfl, rfl, rfl, hg, HF, HX, HY, HB⟩ := hrel
    rcases xs with _ | ⟨p, xs⟩
    · have hl0 : ((([] : List Nat).length : Int)) = 0 := rfl
      simp only [List.length_nil]
      clear hl0
      go_wp2_with (fail)
      go_quiet (fail)
      go_wp2_with (fail)
      go_ret2
      exact ⟨B2, d2, by rw [← HF.out]; rfl, ⟨A2, c2, by rw [← HF.out]; exact HY.out.below (by (repeat first | exact (Below.refl _ _) | refine pw_below_drewN ?_ _ | refine below_drew ?_))⟩, by (repeat first | exact HB.out | refine pw_below_drewN ?_ _ | refine below_drew ?_)⟩
    · rcases ys with _ | ⟨q, ys⟩
      · simp only [List.length_nil, List.length_cons]
        have hpos : (0 : Int) < ((xs.length + 1 : Nat) : Int) := by omega
        go_wp2_with (fail)
        go_quiet (fail)
        go_wp2_with (fail)
        go_ret2
        exact ⟨B2, d2, by rw [← HF.out]; rfl, ⟨A2, c2, by rw [← HF.out]; exact HY.out.below (by (repeat first | exact (Below.refl _ _) | refine pw_below_drewN ?_ _ | refine below_drew ?_))⟩, by (repeat first | exact HB.out | refine pw_below_drewN ?_ _ | refine below_drew ?_)⟩
      · obtain ⟨ad, rfl, hx⟩ := HX.out.1.at_ 0 (by omega) (by simp)
        obtain ⟨ad', rfl, hy⟩ := HY.out.1.1.at_ 0 (by omega) (by simp)
        have hx' : wr.cell? (ad.add 0) = some (.int .i64 p) := hx
        have hy' : wr.cell? (ad'.add 0) = some (.int .i64 q) := hy
        have hx0 : wr.cell? ad = some (.int .i64 p) := hx'
        have hy0 : wr.cell? ad' = some (.int .i64 q) := hy'
        clear hx hy
        simp only [List.length_cons]
        have hpos : (0 : Int) < ((xs.length + 1 : Nat) : Int) := by omega
        have hpos' : (0 : Int) < ((ys.length + 1 : Nat) : Int) := by omega
        by_cases hpq : p = q
        · subst hpq
          have hb : ((p : Int) == (p : Int)) = true := by simp
          go_wp2_with (fail)
          go_quiet (fail)
          obtain ⟨C1, hc1, hr1⟩ := print_cut (P := Tryz.prog) 37 3 .i64 Tryz.underlying37 HI.out.1 HI.out.2 (some ad) (xs.length + 1) d1 1 (by omega)
          obtain ⟨C2, hc2, hr2⟩ := print_cut (P := Tryz.prog) 37 3 .i64 Tryz.underlying37 HI.out.1 HI.out.2 (some ad') (ys.length + 1) d2 1 (by omega)
          have hk1 : ∀ W, (Instr.slice 37 (.slice (some ad) (xs.length + 1) d1) (some (.int .i64 1)) none none).run Tryz.prog W = .ok (.slice C1 xs.length (d1 - 1)) W := fun W => hc1 W
          have hk2 : ∀ W, (Instr.slice 37 (.slice (some ad') (ys.length + 1) d2) (some (.int .i64 1)) none none).run Tryz.prog W = .ok (.slice C2 ys.length (d2 - 1)) W := fun W => hc2 W
          have HX2 : Aside0 (ReadsN wr C1 (d1 - 1) xs) := ⟨hr1 wr .i64 (toI (p :: xs)) HX.out.2 HX.out.1, by have := HX.out.2; simp at this; omega⟩
          have HY2 : Aside0 (RestR w.heap.size wr (wayP P y) A2 c2 C2 (d2 - 1) ys) := ⟨⟨hr2 wr .i64 (toI (p :: ys)) HY.out.1.2 HY.out.1.1, by have := HY.out.1.2; simp at this; omega⟩, HY.out.2.1, fun W' h => (show ReadsN W' C2 (d2 - 1) ys from by have h2 := HY.out.2.2 W' h; exact ⟨hr2 W' .i64 (toI (p :: ys)) h2.2 h2.1, by have := h2.2; simp at this; omega⟩)⟩
          have E : Aside0 (forkF xs ys p = forkP P x y) := ⟨by rw [← HF.out]; simp [forkF]⟩
          clear hc1 hc2 hr1 hr2 HX HY HF
          go_wp2_with (fail)
          go_quiet (fail)
          go_wp2_with (fail)
          go_roundg xs.length
          case measure => have := hg.out; simp at this; omega
          case rel => exact ⟨p, xs, ys, C1, C2, d1 - 1, d2 - 1, rfl, rfl, rfl, ⟨Nat.le_refl _⟩, E, ⟨HX2.out.below (by (repeat first | exact (Below.refl _ _) | refine pw_below_drewN ?_ _ | refine below_drew ?_))⟩, ⟨HY2.out.below (by (repeat first | exact (Below.refl _ _) | refine pw_below_drewN ?_ _ | refine below_drew ?_))⟩, ⟨by (repeat first | exact HB.out | refine pw_below_drewN ?_ _ | refine below_drew ?_)⟩⟩
        · have hb : ((p : Int) == (q : Int)) = false := by simp; omega
          have E : Aside0 (forkF (p :: xs) (q :: ys) t = (t, q :: ys)) := ⟨by simp only [forkF]; rw [if_neg hpq]⟩
          go_wp2_with (fail)
          go_quiet (fail)
          go_wp2_with (fail)
          go_ret2
          exact ⟨some ad', d2, by rw [← HF.out, E.out]; rfl, ⟨A2, c2, by rw [← HF.out, E.out]; exact HY.out.below (by (repeat first | exact (Below.refl _ _) | refine pw_below_drewN ?_ _ | refine below_drew ?_))⟩, by (repeat first | exact HB.out | refine pw_below_drewN ?_ _ | refine below_drew ?_)⟩
theorem fork_calls (c : Nat) (v : Value) (P : List Page) (a base x y : Nat) (w : World) (h : ChestAt w base c v P a) (hO : Ok P a) (hx : x < P.length) (hy : y < P.length) :
    Calls Tryz.prog 34 #[.pointer (some ⟨c, 0, none⟩), .int .i64 x, .int .i64 y] w (ForkR P x y w) :=
  (fork_calls2 c v P a base x y w h hO hx hy).mono (fun e w' ⟨A, k, he, ⟨_, _, hr⟩, hb⟩ => ⟨A, k, he, hr.1, hb⟩)
end Go.Proofs.YtccnfbjdpgmlhaaGreatDoor

namespace Go.Proofs.YtccnfbjdpgmlhaaGreatDoor
open Go.RowKit Go.Proofs.YtccnfbjdpgmlhaaGreatDoorW.PrintWords Go.Proofs.YtccnfbjdpgmlhaaGreatDoorW.PrintLast Go.Proofs.YtccnfbjdpgmlhaaGreatDoorW.PrintMore
set_option linter.unusedVariables false
set_option linter.unusedSimpArgs false

def childB (pa : Int) (ch : ByteArray) (p : Pg) : Bool := (p.change.toList == ch.toList) && ((p.parent == pa) && !p.change.toList.isEmpty)
set_option maxHeartbeats 1000000 in
theorem child1_calls (x : Pg) (pa : Int) (ch : ByteArray) (b1 b2 : Nat) (w : World) (h1 : w.cell? ⟨b1, 0, none⟩ = some (.string ch)) (h2 : w.cell? ⟨b2, 0, none⟩ = some (.int .i64 pa)) :
    Calls Tryz.prog 49 #[.agg #[.string x.change, .int .i64 x.parent, .pointer (some ⟨x.ptr, 0, none⟩)], .pointer (some ⟨b1, 0, none⟩), .pointer (some ⟨b2, 0, none⟩)] w fun e w' => e = .returned (.bool (childB pa ch x)) ∧ Below w.heap.size w w' := by
  obtain ⟨xc, xp, xb⟩ := x
  have k1 : ∀ o, (w.alloc o).cell? ⟨b1, 0, none⟩ = some (.string ch) := fun o => (((Below.refl w.heap.size w).alloc (Nat.le_refl _) o).cell (World.block_lt_of_cell? w _ h1)).trans h1
  have k2 : ∀ o, (w.alloc o).cell? ⟨b2, 0, none⟩ = some (.int .i64 pa) := fun o => (((Below.refl w.heap.size w).alloc (Nat.le_refl _) o).cell (World.block_lt_of_cell? w _ h2)).trans h2
  rcases e1 : (xc.toList == ch.toList) with _ | _
  · have E : Aside0 (childB pa ch ⟨xc, xp, xb⟩ = false) := ⟨by simp only [childB, e1, Bool.false_and]⟩
    go_enter Tryz.func49, Tryz.ntmps49
    go_wp2
    go_ret
    exact ⟨by rw [E.out]; rfl, (Below.refl _ _).alloc (Nat.le_refl _) _⟩
  · have h12 : xc.toList.isEmpty = ch.toList.isEmpty := by rw [beq_iff_eq.mp e1]
    rcases e2 : (xp == pa) with _ | _
    · have E : Aside0 (childB pa ch ⟨xc, xp, xb⟩ = false) := ⟨by simp only [childB, e1, e2, Bool.false_and, Bool.and_false]⟩
      clear h12
      go_enter Tryz.func49, Tryz.ntmps49
      go_wp2
      go_ret
      exact ⟨by rw [E.out]; rfl, (Below.refl _ _).alloc (Nat.le_refl _) _⟩
    · rcases e3 : xc.toList.isEmpty with _ | _
      · have e3' := h12.symm.trans e3
        have E : Aside0 (childB pa ch ⟨xc, xp, xb⟩ = true) := ⟨by simp only [childB, e1, e2, e3]; rfl⟩
        clear h12
        go_enter Tryz.func49, Tryz.ntmps49
        go_wp2
        go_ret
        exact ⟨by rw [E.out]; rfl, (Below.refl _ _).alloc (Nat.le_refl _) _⟩
      · have e3' := h12.symm.trans e3
        have E : Aside0 (childB pa ch ⟨xc, xp, xb⟩ = false) := ⟨by simp only [childB, e1, e2, e3]; rfl⟩
        clear h12
        go_enter Tryz.func49, Tryz.ntmps49
        go_wp2
        go_ret
        exact ⟨by rw [E.out]; rfl, (Below.refl _ _).alloc (Nat.le_refl _) _⟩

set_option maxHeartbeats 1000000 in
theorem child_calls (c : Nat) (v : Value) (P : List Page) (a base : Nat) (pa : Int) (ch : ByteArray) (w : World) (h : ChestAt w base c v P a) (hP : P.length ≤ 200) :
    Calls Tryz.prog 31 #[.pointer (some ⟨c, 0, none⟩), .int .i64 pa, .string ch] w fun e w' => e = .returned (.int .i64 (idxT (childB pa ch) (P.map Page.pg) 0)) ∧ Below w.heap.size w w' := by
  obtain ⟨A, cap, rfl, hl, hC, h0, h1, f0, f1⟩ := h.cells
  have hb : Below w.heap.size w ((w.alloc (.cells #[.int .i64 pa] 3)).alloc (.cells #[.string ch] 9)) := ((Below.refl _ _).alloc (Nat.le_refl _) _).alloc (by simp) _
  have hc1 : ((w.alloc (.cells #[.int .i64 pa] 3)).alloc (.cells #[.string ch] 9)).cell? ⟨w.heap.size + 1, 0, none⟩ = some (.string ch) := by simp
  have hc2 : ((w.alloc (.cells #[.int .i64 pa] 3)).alloc (.cells #[.string ch] 9)).cell? ⟨w.heap.size, 0, none⟩ = some (.int .i64 pa) := by simp
  have hm : (P.map Page.pg).length = P.length := by simp
  have hs : ((w.alloc (.cells #[.int .i64 pa] 3)).alloc (.cells #[.string ch] 9)).heap.size = w.heap.size + 2 := by simp
  have hcall := idx_page 49 #[.pointer (some ⟨w.heap.size + 1, 0, none⟩), .pointer (some ⟨w.heap.size, 0, none⟩)] (childB pa ch) A cap (P.map Page.pg) ((w.alloc (.cells #[.int .i64 pa] 3)).alloc (.cells #[.string ch] 9))
    (enters_of Tryz.func49 (by kernel_rfl) rfl)
    (fun W x hx hB => child1_calls x pa ch (w.heap.size + 1) w.heap.size W ((hB.cell (p := ⟨w.heap.size + 1, 0, none⟩) (by rw [hs]; simp)).trans hc1) ((hB.cell (p := ⟨w.heap.size, 0, none⟩) (by rw [hs]; simp)).trans hc2))
    (by rw [hm]; exact Kd.C_below hC hb) (by rw [hm]; exact hl) (by rw [hm]; omega)
  rw [hm] at hcall
  have k0 := (hb.cell (World.block_lt_of_cell? w _ h0)).trans h0
  have HB := Aside0.mk hb
  have HS := Aside0.mk hs
  clear hc1 hc2 hC h hb hs hm hP hl
  go_enter Tryz.func31, Tryz.ntmps31
  go_wp2_with (go_at_call 48; (with_reducible refine hcall.mono ?_); rintro e w' ⟨rfl, hb'⟩)
  go_ret
  exact ⟨rfl, HB.out.trans (hb'.mono (by rw [HS.out]; omega))⟩

def ForkE (P : List Page) (x y : Int) : Int := if (inP P.length x && inP P.length y) = true then 0 else 2
def ForkN (P : List Page) (x y : Int) : Int := if (inP P.length x && inP P.length y) = true then (forkP P x.toNat y.toNat).1 else 0
theorem inP_nat {n : Nat} {x : Int} (h : inP n x = true) : ∃ k : Nat, x = (k : Int) ∧ k < n := by
  have := of_decide_eq_true h
  exact ⟨x.toNat, by omega, by omega⟩
set_option maxHeartbeats 1000000 in
theorem Fork_calls (c : Nat) (v : Value) (P : List Page) (a base : Nat) (x y : Int) (w : World) (h : ChestAt w base c v P a) (hO : Ok P a) :
    Calls Tryz.prog 11 #[.pointer (some ⟨c, 0, none⟩), .int .i64 x, .int .i64 y] w fun e w' => e = .returned (.tuple #[.int .i64 (ForkN P x y), .int .i64 (ForkE P x y)]) ∧ Below w.heap.size w w' := by
  have hn := none_calls c v P a base w h (by have := hO.at_; omega)
  have hb1 : Below w.heap.size w (w.alloc (.cells #[.int .i64 x, .int .i64 y] 3)) := (Below.refl _ _).alloc (Nat.le_refl _) _
  have hh := has_two c v P a base x y w.heap.size (w.alloc (.cells #[.int .i64 x, .int .i64 y] 3)) (h.below hb1) (by simp) (by simp)
  have HB := Aside0.mk hb1
  cases hi : (inP P.length x && inP P.length y) with
  | false =>
    rw [hi] at hh
    have EE := Aside0.mk (show ForkE P x y = 2 ∧ ForkN P x y = 0 by simp only [ForkE, ForkN, hi]; exact ⟨rfl, rfl⟩)
    clear h hO hi hb1
    go_enter Tryz.func11, Tryz.ntmps11
    go_wp2_with (first | (go_at_call 28; (with_reducible refine hn.mono ?_); rintro e w' ⟨rfl, rfl⟩) | (go_at_call 33; (with_reducible refine hh.mono ?_); rintro e w1 ⟨rfl, hb'⟩))
    go_ret2
    exact ⟨by rw [EE.out.1, EE.out.2]; rfl, HB.out.trans (hb'.mono (by simp))⟩
  | true =>
    obtain ⟨hx, hy⟩ := Bool.and_eq_true_iff.mp hi
    obtain ⟨n, rfl, hn1⟩ := inP_nat hx
    obtain ⟨m, rfl, hm1⟩ := inP_nat hy
    rw [hi] at hh
    have EE := Aside0.mk (show ForkE P n m = 0 ∧ ForkN P n m = (forkP P n m).1 by simp only [ForkE, ForkN, hi]; exact ⟨rfl, rfl⟩)
    have HF := Aside0.mk (fun (W : World) (hb : Below w.heap.size w W) => fork_calls c v P a base n m W (h.below hb) hO hn1 hm1)
    clear h hO hi hb1 hx hy hn1 hm1
    go_enter Tryz.func11, Tryz.ntmps11
    go_wp2_with (first | (go_at_call 28; (with_reducible refine hn.mono ?_); rintro e w' ⟨rfl, rfl⟩) | (go_at_call 33; (with_reducible refine hh.mono ?_); rintro e w1 ⟨rfl, hb'⟩; have hb2 := Aside0.mk (HB.out.trans (hb'.mono (by simp)))) | (go_at_call 34; (with_reducible refine (HF.out _ hb2.out).mono ?_); rintro e w2 ⟨A2, c2, rfl, _, hb3⟩))
    go_ret2
    exact ⟨by rw [EE.out.1, EE.out.2]; rfl, hb2.out.trans (hb3.mono hb2.out.size)⟩
end Go.Proofs.YtccnfbjdpgmlhaaGreatDoor

namespace Go.Proofs.YtccnfbjdpgmlhaaGreatDoor
open Go.RowKit Go.Proofs.YtccnfbjdpgmlhaaGreatDoorW.PrintWords Go.Proofs.YtccnfbjdpgmlhaaGreatDoorW.PrintLast Go.Proofs.YtccnfbjdpgmlhaaGreatDoorW.PrintMore
set_option linter.unusedVariables false
set_option linter.unusedSimpArgs false

theorem page_lit (W : World) (base : Nat) (p : Pg) (hb : base ≤ W.heap.size) :
    Kd.R kPg 65 (W.alloc (.cells #[.string p.change, .int .i64 p.parent, .pointer (some ⟨p.ptr, 0, none⟩)] 65)) base Tt (.slice (some ⟨W.heap.size, 0, none⟩) 1 1) [p] := by
  refine ⟨fun _ _ => trivial, ?_⟩
  refine OwnRow.lit W base (inner := [.string p.change, .int .i64 p.parent, .pointer (some ⟨p.ptr, 0, none⟩)]) (ps := [p]) ⟨rfl, fun j q hj => ?_⟩ hb (by simp)
  obtain rfl : j = 0 := by
    have := (List.getElem?_eq_some_iff.1 hj).1
    simp at this; omega
  obtain rfl : p = q := by simpa using hj
  exact kPg_mkM _ _ _ _
def page0 (b : Nat) : Page := ⟨ByteArray.empty, 0, b, St.zero⟩
def newW1 (w : World) : World := w.alloc (.cells #[.slice none 0 0, .slice none 0 0, .int .i64 0, .int .i64 0, .int .i64 0, .int .i64 0, .slice none 0 0] 76)
def newW2 (w : World) : World := (newW1 w).alloc (.cells #[.string ByteArray.empty, .int .i64 0, .pointer (some ⟨w.heap.size, 0, none⟩)] 65)
def newW3 (w : World) : World := (newW2 w).alloc (.cells #[.slice (some ⟨w.heap.size + 1, 0, none⟩) 1 1, .int .i64 0] 25)
theorem newW1_size (w : World) : (newW1 w).heap.size = w.heap.size + 1 := by simp [newW1]
theorem newW2_size (w : World) : (newW2 w).heap.size = w.heap.size + 2 := by simp [newW2, newW1_size]
theorem new_below (w : World) : Below w.heap.size w (newW3 w) := (((Below.refl _ _).alloc (Nat.le_refl _) _).alloc (by simp) _).alloc (by simp; omega) _
theorem new_mem (w : World) : ChestAt (newW3 w) w.heap.size (w.heap.size + 2) (.slice (some ⟨w.heap.size + 1, 0, none⟩) 1 1) [page0 w.heap.size] 0 := by
  have h1 : StAt (newW1 w) w.heap.size w.heap.size St.zero := ⟨_, _, _, blk_new w _, Nat.le_refl _, Kd.R_nil _ _ _ _ _, Kd.R_nil _ _ _ _ _, Kd.R_nil _ _ _ _ _⟩
  have b2 : Below (newW1 w).heap.size (newW1 w) (newW2 w) := (Below.refl _ _).alloc (Nat.le_refl _) _
  have b3 : Below (newW2 w).heap.size (newW2 w) (newW3 w) := (Below.refl _ _).alloc (Nat.le_refl _) _
  have hp := page_lit (newW1 w) w.heap.size (page0 w.heap.size).pg (by rw [newW1_size]; omega)
  rw [newW1_size] at hp
  refine ⟨?_, by omega, Kd.R_below hp b3, fun p hp => ?_⟩
  · have := blk_new (newW2 w) (.cells #[.slice (some ⟨w.heap.size + 1, 0, none⟩) 1 1, .int .i64 0] 25)
    rw [newW2_size] at this
    exact this
  · rw [List.mem_singleton.mp hp]
    exact (h1.below b2).below b3
set_option maxHeartbeats 1000000 in
theorem New_calls (w : World) : Calls Tryz.prog 23 #[] w fun e w' => ∃ c v b, e = .returned (.pointer (some ⟨c, 0, none⟩)) ∧ ChestAt w' w.heap.size c v [page0 b] 0 ∧ Below w.heap.size w w' := by
  have h := new_mem w
  have hb := new_below w
  unfold newW3 newW2 newW1 at h hb
  generalize hc : w.heap.size + 2 = c at h
  go_enter Tryz.func23, Tryz.ntmps23
  go_wp2
  go_ret
  subst hc
  exact ⟨_, _, _, rfl, h, hb⟩

def chg (P : List Page) (p : Nat) : ByteArray := (P.getD p default).change
def pathP (P : List Page) (a : Nat) : List ByteArray := (wayP P a).map (chg P)
theorem wayP_mem {P : List Page} (hT : Tree P) : ∀ (n a : Nat), a ≤ n → a < P.length → ∀ p ∈ up P a, 0 < p ∧ p < P.length ∧ p ≤ a := by
  intro n
  induction n with
  | zero =>
    intro a ha hl p hp
    obtain rfl : a = 0 := by omega
    rw [up_zero] at hp; cases hp
  | succ n ih =>
    intro a ha hl p hp
    rcases Nat.eq_zero_or_pos a with h0 | h0
    · subst h0; rw [up_zero] at hp; cases hp
    · rw [up_step P hT a h0 hl] at hp
      have hq := hT a h0 hl
      rcases List.mem_cons.mp hp with rfl | hp
      · exact ⟨h0, hl, Nat.le_refl _⟩
      · obtain ⟨h1, h2, h3⟩ := ih _ (by omega) (by omega) p hp
        exact ⟨h1, h2, by omega⟩
theorem wayP_getD {P : List Page} (hT : Tree P) {a : Nat} (ha : a < P.length) {k : Nat} (hk : k < (wayP P a).length) : (wayP P a).getD k 0 < P.length := by
  have hm : (wayP P a).getD k 0 ∈ wayP P a := getD_mem hk
  exact (wayP_mem hT a a (Nat.le_refl _) ha _ (List.mem_reverse.mp hm)).2.1
theorem take_snoc {α : Type} (l : List α) (z : α) (k : Nat) (h : k < l.length) : l.take (k + 1) = l.take k ++ [l.getD k z] := by
  rw [List.take_add_one, List.getD_eq_getElem?_getD, List.getElem?_eq_getElem h]; rfl
theorem page_at {w : World} {P : List Page} {A : Option Addr} (hC : Kd.C kPg w A P.length (P.map Page.pg)) (p : Nat) (hp : p < P.length) :
    ∃ ad, A = some ad ∧ w.cell? (ad.add (p * 3)) = some (.string (chg P p)) ∧ w.cell? ⟨(ad.add (p * 3)).block, (ad.add (p * 3)).off + 1, none⟩ = some (.int .i64 (par P p)) ∧
      w.cell? ⟨(ad.add (p * 3)).block, (ad.add (p * 3)).off + 2, none⟩ = some (.pointer (some ⟨(P.getD p default).ptr, 0, none⟩)) := by
  obtain ⟨ad, e, h0, h1, h2⟩ := at_pg hC (p : Int) (by omega) (by omega)
  have hg : (P.map Page.pg).getD p default = (P.getD p default).pg := by
    rw [List.getD_eq_getElem?_getD, List.getD_eq_getElem?_getD, List.getElem?_map, List.getElem?_eq_getElem hp]; rfl
  rw [Int.toNat_natCast, hg] at h0 h1 h2
  exact ⟨ad, e, h0, h1, h2⟩

theorem ReadsN.at_ {w : World} {A : Option Addr} {c : Nat} {xs : List Nat} (h : ReadsN w A c xs) {k : Nat} (hk : k < xs.length) : ∃ ad, A = some ad ∧ w.cell? (ad.add k) = some (.int .i64 (xs.getD k 0 : Nat)) := by
  obtain ⟨ad, e, hx⟩ := h.1.at_ k (by omega) (by omega)
  have hgd : (toI xs).getD (k : Int).toNat 0 = ((xs.getD k 0 : Nat) : Int) := by
    rw [Int.toNat_natCast, toI, List.getD_eq_getElem?_getD, List.getD_eq_getElem?_getD, List.getElem?_map, List.getElem?_eq_getElem hk]; rfl
  rw [Int.toNat_natCast] at hx
  refine ⟨ad, e, hx.trans ?_⟩
  rw [← hgd]; rfl
theorem readsN_of_R {w : World} {base c : Nat} {A : Option Addr} {xs : List Nat} (h : Kd.R (Kd.int .i64) 3 w base Tt (.slice A xs.length c) (toI xs)) : ReadsN w A c xs := by
  obtain ⟨A', c', e, hn⟩ := reads_of_R h
  injection e with e1 _ e2
  subst e1; subst e2
  exact hn
def PathR (P : List Page) (a : Nat) (w : World) (e : Ending) (w' : World) : Prop := ∃ v, e = .returned v ∧ Kd.R Kd.string 9 w' w.heap.size Tt v (pathP P a) ∧ Below w.heap.size w w'
set_option maxHeartbeats 2000000 in
theorem Path_calls (c : Nat) (v : Value) (P : List Page) (a base : Nat) (w : World) (h : ChestAt w base c v P a) (hO : Ok P a) :
    Calls Tryz.prog 16 #[.pointer (some ⟨c, 0, none⟩)] w (PathR P a w) := by
  have hn := none_calls c v P a base w h (by have := hO.at_; omega)
  have hw := way_calls c v P a base a w h hO.tree hO.at_ hO.most
  obtain ⟨A, cap, rfl, hl, hC, h0, h1, f0, f1⟩ := h.cells
  have HC := Aside0.mk hC
  have H0 := Aside0.mk h0
  have HT := Aside0.mk hO
  have hcl : c < w.heap.size := World.block_lt_of_cell? w _ h0
  have hm : (wayP P a).length ≤ 200 := by have := up_length P hO.tree a hO.at_; have := hO.most; have := hO.at_; simp [wayP]; omega
  have HM := Aside0.mk hm
  clear h hC f0 f1 hO hm
  go_enter Tryz.func16, Tryz.ntmps16
  go_wp2_with (first | (go_at_call 28; (with_reducible refine hn.mono ?_); rintro e w' ⟨rfl, rfl⟩) | (go_at_call 35; (with_reducible refine hw.mono ?_); rintro e w1 ⟨v1, rfl, hR1, hb1⟩; have HB1 := Aside0.mk hb1; have HR1 := Aside0.mk hR1; obtain ⟨A1, c1, rfl, hn1⟩ := reads_of_R HR1.out; clear hR1 hb1 hn1))
  go_loopg [3, 15] (wayP P a).length (fun gg s3 s15 W => ∃ (k : Nat), s15 = .int .i64 k ∧ k ≤ (wayP P a).length ∧ Aside0 ((wayP P a).length - k ≤ gg) ∧ Aside0 (Kd.R Kd.string 9 W w.heap.size Tt s3 (((wayP P a).take k).map (chg P))) ∧ Aside0 (Kd.R (Kd.int .i64) 3 W w.heap.size Tt (.slice A1 (wayP P a).length c1) (toI (wayP P a))) ∧ Aside0 (Below w.heap.size w W))
  case atStart => exact ⟨0, rfl, Nat.zero_le _, ⟨by omega⟩, ⟨Kd.R_nil _ _ _ _ _⟩, HR1, HB1⟩
  case round =>
    obtain ⟨k, rfl, hk, hgk, HR, HX, BW⟩ := hrel
    have g0 := (BW.out.cell (p := ⟨c, 0, none⟩) hcl).trans H0.out
    rcases Nat.lt_or_ge k (wayP P a).length with hlt | hge
    · have hltz : (k : Int) < ((wayP P a).length : Int) := by omega
      obtain ⟨ad1, rfl, hx⟩ := (readsN_of_R HX.out).at_ hlt
      have hpl := wayP_getD HT.out.tree HT.out.at_ hlt
      have ET := Aside0.mk (take_snoc (wayP P a) 0 k hlt)
      generalize (wayP P a).getD k 0 = p at hx hpl ET
      obtain ⟨ad, rfl, hx0, hx1, hx2⟩ := page_at HC.out p hpl
      have hy0 := (BW.out.cell (World.block_lt_of_cell? w _ hx0)).trans hx0
      have hp0 : (0 : Int) ≤ (p : Int) := by omega
      have hp1 : (p : Int) < (P.length : Int) := by omega
      have hk0 : (0 : Int) ≤ (k : Int) := by omega
      have hm := HM.out
      clear hx0 hx1 hx2
      go_wp2_with (at_builtin; refine Kd.R_append Kd.string (w0 := w) w.heap.size rfl (.tmp 19) (.tmp 28) 35 9 (.string ByteArray.empty) 16 rfl Tryz.underlying35 infoStr rfl (by decide) (by omega) u3 (((wayP P a).take k).map (chg P)) (chg P p) [.string (chg P p)] Tt (fun _ => False) rfl (by first | (go_simp; done) | (go_simp; rfl)) rfl (fun _ hk => hk.elim) (fun _ _ => trivial) HR.out BW.out BW.out.size (by rw [List.length_map, List.length_take]; have := HM.out; omega) ?_; intro v1 w2 hR2 hb2 hg2 hat2; have HR2 := Aside0.mk hR2; have HB2 := Aside0.mk hb2; have HX2 := Aside0.mk (Kd.R_over HX.out HR.out (by simp [Kd.int, Kd.scalar]) hg2); clear hR2 hb2 hg2 hat2)
      go_roundg ((wayP P a).length - (k + 1))
      case measure => have := hgk.out; omega
      case rel => exact ⟨k + 1, by go_num, by omega, ⟨Nat.le_refl _⟩, ⟨by rw [ET.out, List.map_append]; exact HR2.out⟩, HX2, HB2⟩
    · have hltz : ¬ (k : Int) < ((wayP P a).length : Int) := by omega
      have E := Aside0.mk (show (wayP P a).take k = wayP P a from List.take_of_length_le hge)
      go_wp2
      go_ret
      exact ⟨u3, rfl, by have := HR.out; rw [E.out] at this; exact this, BW.out⟩

def isChild (P : List Page) (a i : Nat) : Bool := decide (0 < i ∧ par P i = a)
def childrenTo (P : List Page) (a k : Nat) : List Nat := (List.range k).filter (isChild P a)
theorem childrenTo_succ (P : List Page) (a k : Nat) : childrenTo P a (k + 1) = childrenTo P a k ++ (if isChild P a k = true then [k] else []) := by
  rw [childrenTo, List.range_succ, List.filter_append]
  cases h : isChild P a k <;> simp [childrenTo, h]
theorem childrenTo_length (P : List Page) (a k : Nat) : (childrenTo P a k).length ≤ k := by
  have := List.length_filter_le (isChild P a) (List.range k)
  simpa [childrenTo] using this
def ChildrenR (P : List Page) (a : Nat) (w : World) (e : Ending) (w' : World) : Prop := ∃ v, e = .returned v ∧ Kd.R (Kd.int .i64) 3 w' w.heap.size Tt v (toI (childrenTo P a P.length)) ∧ Below w.heap.size w w'
set_option maxHeartbeats 4000000 in
theorem Children_calls (c : Nat) (v : Value) (P : List Page) (a base : Nat) (w : World) (h : ChestAt w base c v P a) (hO : Ok P a) :
    Calls Tryz.prog 17 #[.pointer (some ⟨c, 0, none⟩)] w (ChildrenR P a w) := by
  have hn := none_calls c v P a base w h (by have := hO.at_; omega)
  obtain ⟨A, cap, rfl, hl, hC, h0, h1, f0, f1⟩ := h.cells
  have HC := Aside0.mk hC
  have H0 := Aside0.mk h0
  have H1 := Aside0.mk h1
  have HT := Aside0.mk hO
  have hcl : c < w.heap.size := World.block_lt_of_cell? w _ h0
  clear h hC f0 f1 hO h1
  go_enter Tryz.func17, Tryz.ntmps17
  go_wp2_with (go_at_call 28; (with_reducible refine hn.mono ?_); rintro e w' ⟨rfl, rfl⟩)
  go_loopg [3, 13] P.length (fun gg s3 s13 W => ∃ (k : Nat), s13 = .int .i64 k ∧ k ≤ P.length ∧ Aside0 (P.length - k ≤ gg) ∧ Aside0 (Kd.R (Kd.int .i64) 3 W w.heap.size Tt s3 (toI (childrenTo P a k))) ∧ Aside0 (Below w.heap.size w W))
  case atStart => exact ⟨0, rfl, Nat.zero_le _, ⟨by omega⟩, ⟨Kd.R_nil _ _ _ _ _⟩, ⟨Below.refl _ _⟩⟩
  case round =>
    obtain ⟨k, rfl, hk, hgk, HR, BW⟩ := hrel
    rcases Nat.lt_or_ge k P.length with hlt | hge
    · have hltz : (k : Int) < (P.length : Int) := by omega
      have hk0 : (0 : Int) ≤ (k : Int) := by omega
      obtain ⟨ad, rfl, hx0, hx1, hx2⟩ := page_at HC.out k hlt
      replace hx0 := (BW.out.cell (World.block_lt_of_cell? w _ hx0)).trans hx0
      replace hx1 := (BW.out.cell (World.block_lt_of_cell? w _ hx1)).trans hx1
      replace hx2 := (BW.out.cell (World.block_lt_of_cell? w _ hx2)).trans hx2
      have hch : isChild P a k = decide (0 < k ∧ par P k = a) := rfl
      have ES := Aside0.mk (childrenTo_succ P a k)
      have hm := HT.out.most
      generalize (P.getD k default).ptr = pt at hx2
      generalize chg P k = ck at hx0
      generalize par P k = q at hx1 hch
      have hb := Aside0.mk ((Below.refl wr.heap.size wr).alloc (Nat.le_refl _) (.cells #[.string ck, .int .i64 q, .pointer (some ⟨pt, 0, none⟩)] 65))
      have g1 := (hb.out.cell (p := ⟨c, 1, none⟩) (Nat.lt_of_lt_of_le hcl BW.out.size)).trans ((BW.out.cell (p := ⟨c, 1, none⟩) hcl).trans H1.out)
      have HR1 := Aside0.mk (Kd.R_below HR.out hb.out)
      have BW1 := Aside0.mk (BW.out.trans (hb.out.mono BW.out.size))
      have HL := Aside0.mk (childrenTo_length P a k)
      by_cases hz : 0 < k
      · have hzb : (0 : Int) < (k : Int) := by omega
        by_cases hq : q = a
        · have hqb : ((q : Int) == (a : Int)) = true := by simp [hq]
          have E := Aside0.mk (show childrenTo P a (k + 1) = childrenTo P a k ++ [k] by rw [ES.out, hch]; simp [hz, hq])
          clear hch hq ES
          go_wp2_with (fail)
          go_quiet (fail)
          go_wp2_with (at_builtin; refine Kd.R_append (Kd.int .i64) (w0 := w) w.heap.size rfl (.tmp 29) (.tmp 31) 37 3 (.int .i64 0) 8 rfl Tryz.underlying37 infoInt rfl (by decide) (by omega) u3 (toI (childrenTo P a k)) (k : Int) [.int .i64 k] Tt (fun _ => False) rfl (by first | (go_simp; done) | (go_simp; rfl)) rfl (fun _ hk => hk.elim) (fun _ _ => trivial) (Kd.R_drewN HR1.out _) (pw_below_drewN BW1.out _) (pw_below_drewN BW1.out _).size (by rw [toI_length]; have := HL.out; omega) ?_; intro v1 w2 hR2 hb2 hg2 hat2; have HR2 := Aside0.mk hR2; have HB2 := Aside0.mk hb2; clear hR2 hb2 hg2 hat2)
          go_roundg (P.length - (k + 1))
          case measure => have := hgk.out; omega
          case rel => exact ⟨k + 1, by go_num, by omega, ⟨Nat.le_refl _⟩, ⟨by rw [E.out, ← toI_snoc]; exact HR2.out⟩, HB2⟩
        · have hqb : ((q : Int) == (a : Int)) = false := by simp; omega
          have E := Aside0.mk (show childrenTo P a (k + 1) = childrenTo P a k by rw [ES.out, hch]; simp [hz, hq])
          clear hch hq ES
          go_wp2_with (fail)
          go_quiet (fail)
          go_wp2
          go_roundg (P.length - (k + 1))
          case measure => have := hgk.out; omega
          case rel => exact ⟨k + 1, by go_num, by omega, ⟨Nat.le_refl _⟩, ⟨by rw [E.out]; exact Kd.R_drewN HR1.out _⟩, ⟨pw_below_drewN BW1.out _⟩⟩
      · have hzb : ¬ (0 : Int) < (k : Int) := by omega
        have E := Aside0.mk (show childrenTo P a (k + 1) = childrenTo P a k by rw [ES.out, hch]; simp [hz])
        clear hch ES
        go_wp2_with (fail)
        go_quiet (fail)
        go_wp2
        go_roundg (P.length - (k + 1))
        case measure => have := hgk.out; omega
        case rel => exact ⟨k + 1, by go_num, by omega, ⟨Nat.le_refl _⟩, ⟨by rw [E.out]; exact Kd.R_drewN HR1.out _⟩, ⟨pw_below_drewN BW1.out _⟩⟩
    · have hltz : ¬ (k : Int) < (P.length : Int) := by omega
      obtain rfl : k = P.length := by omega
      go_wp2
      go_ret
      exact ⟨u3, rfl, HR.out, BW.out⟩
end Go.Proofs.YtccnfbjdpgmlhaaGreatDoor
