/- What a change makes of a state; good states stay good. -/
import Derived.Test.YtccnfbjdpgmlhaaGreatDoorChQ
import Derived.Test.YtccnfbjdpgmlhaaGreatDoorChT
import Derived.Lib.ItoaMem
namespace Go.Proofs.YtccnfbjdpgmlhaaGreatDoor
open Go.RowKit Go.Proofs.YtccnfbjdpgmlhaaGreatDoorW.PrintWords Go.Proofs.YtccnfbjdpgmlhaaGreatDoorW.PrintLast Go.Proofs.YtccnfbjdpgmlhaaGreatDoorW.PrintMore
set_option linter.unusedVariables false
set_option linter.unusedSimpArgs false

theorem numOk_range {x : ByteArray} (h : numOk x = true) : 0 ≤ numV x ∧ numV x ≤ 999 := by
  unfold numOk at h
  unfold numV
  cases ha : Lib.atoiAll x.data.toList with
  | ok v =>
    rw [ha] at h
    simp only [Bool.and_eq_true, decide_eq_true_eq, beq_iff_eq] at h
    obtain ⟨h0, h3, he⟩ := h
    refine ⟨h0, ?_⟩
    have e : Lib.itoa v = Lib.decDigits v.toNat := by
      have := Lib.itoa_nonneg v.toNat
      rwa [Int.toNat_of_nonneg h0] at this
    have hl : (Lib.decDigits v.toNat).length = x.size := by
      rw [← e, he, Lib.toList_data, Array.length_toList]; rfl
    rw [Lib.decDigits_length] at hl
    have h1 := Lib.lt_pow_nDigits v.toNat
    have h2 : (10 : Nat) ^ Lib.nDigits v.toNat ≤ 10 ^ 3 := Nat.pow_le_pow_right (by omega) (by omega)
    have h4 : (10 : Nat) ^ 3 = 1000 := by decide
    show v ≤ 999
    omega
  | range => rw [ha] at h; cases h
  | _ => rw [ha] at h; cases h
theorem readW_counts : ∀ (fs : List UInt8) (xs : List ByteArray) (ns : List ByteArray) (ds : List Int) (ns' : List ByteArray) (ds' : List Int), xs.length = fs.length → readW fs xs ns ds = some (ns', ds') →
    ns'.length = ns.length + fs.count 110 ∧ ds'.length + fs.count 110 = ds.length + fs.length ∧ (∀ d ∈ ds', d ∈ ds ∨ (0 ≤ d ∧ d ≤ 999)) ∧ (∀ x ∈ ns', x ∈ ns ∨ nameOk x = true) := by
  intro fs
  induction fs with
  | nil =>
    intro xs ns ds ns' ds' hl h
    have : xs = [] := List.eq_nil_of_length_eq_zero hl
    subst this
    simp only [readW, Option.some.injEq, Prod.mk.injEq] at h
    obtain ⟨rfl, rfl⟩ := h
    exact ⟨by simp, by simp, fun d hd => .inl hd, fun x hx => .inl hx⟩
  | cons f fs ih =>
    intro xs ns ds ns' ds' hl h
    cases xs with
    | nil => simp at hl
    | cons x xs =>
      have hl' : xs.length = fs.length := by simpa using hl
      simp only [readW] at h
      by_cases hf : f = 110
      · rw [if_pos hf] at h
        by_cases hn : nameOk x = true
        · rw [if_pos hn] at h
          obtain ⟨h1, h2, h3, h4⟩ := ih xs _ _ _ _ hl' h
          refine ⟨?_, ?_, h3, fun y hy => ?_⟩
          · rw [h1, List.length_append, hf, List.count_cons_self]; simp; omega
          · rw [hf, List.count_cons_self, List.length_cons]; omega
          · rcases h4 y hy with h5 | h5
            · rcases List.mem_append.mp h5 with h6 | h6
              · exact .inl h6
              · rw [List.mem_singleton.mp h6]; exact .inr hn
            · exact .inr h5
        · rw [if_neg hn] at h; cases h
      · rw [if_neg hf] at h
        by_cases hn : numOk x = true
        · rw [if_pos hn] at h
          obtain ⟨h1, h2, h3, h4⟩ := ih xs _ _ _ _ hl' h
          refine ⟨?_, ?_, fun d hd => ?_, h4⟩
          · rw [h1, List.count_cons_of_ne hf]
          · rw [List.count_cons_of_ne hf, List.length_cons]
            rw [List.length_append, List.length_singleton] at h2
            omega
          · rcases h3 d hd with h5 | h5
            · rcases List.mem_append.mp h5 with h6 | h6
              · exact .inl h6
              · rw [List.mem_singleton.mp h6]; exact .inr (numOk_range hn)
            · exact .inr h5
        · rw [if_neg hn] at h; cases h
theorem readF_counts {form text : ByteArray} {ns : List ByteArray} {ds : List Int} (h : readF form text = some (ns, ds)) :
    ns.length = form.data.toList.count 110 ∧ ds.length + form.data.toList.count 110 = form.size ∧ (∀ d ∈ ds, 0 ≤ d ∧ d ≤ 999) ∧ (∀ x ∈ ns, nameOk x = true) ∧ lineB text = true := by
  unfold readF at h
  by_cases hc : (wordsOf text).length = form.size + 1 ∧ lineB text = true
  · rw [if_pos hc] at h
    have hl : ((wordsOf text).drop 1).length = form.data.toList.length := by rw [List.length_drop, hc.1, Array.length_toList]; show form.size + 1 - 1 = form.size; omega
    obtain ⟨h1, h2, h3, h4⟩ := readW_counts _ _ _ _ _ _ hl h
    have e : form.data.toList.length = form.size := Array.length_toList
    refine ⟨by simpa using h1, by rw [e] at h2; simpa using h2, fun d hd => ?_, fun x hx => ?_, hc.2⟩
    · rcases h3 d hd with h5 | h5
      · cases h5
      · exact h5
    · rcases h4 x hx with h5 | h5
      · cases h5
      · exact h5
  · rw [if_neg hc] at h; cases h

def wordL (text : ByteArray) : List UInt8 := (Lib.cut text.data.toList spc.data.toList).1
def kLeafW : List UInt8 := [108, 101, 97, 102]
def kGiveW : List UInt8 := [103, 105, 118, 101]
def kOrderW : List UInt8 := [111, 114, 100, 101, 114]
def kTasteW : List UInt8 := [116, 97, 115, 116, 101]
def kOfferW : List UInt8 := [111, 102, 102, 101, 114]
def doG (s : St) (wl : List UInt8) (r : Option (List ByteArray × List Int)) (act : List ByteArray → List Int → St × Int) : St × ByteArray × Int :=
  match r with
  | none => (s, ByteArray.empty, 3)
  | some (ns, ds) => if (act ns ds).2 = 0 then ((act ns ds).1, ⟨wl.toArray⟩, 0) else (s, ByteArray.empty, (act ns ds).2)
/-- a change: the state behind it, the reply, the code. -/
def doF (s : St) (text : ByteArray) : St × ByteArray × Int :=
  if wordL text = kLeafW then doG s (wordL text) (readF ⟨#[110, 100]⟩ text) (leafF s)
  else if wordL text = kGiveW then doG s (wordL text) (readF ⟨#[110, 110, 100]⟩ text) (giveF s)
  else if wordL text = kOrderW then doG s (wordL text) (readF ⟨#[110]⟩ text) (fun ns _ => orderF s ns)
  else if wordL text = kTasteW then doG s (wordL text) (readF ⟨#[100, 100]⟩ text) (fun _ ds => tasteF s ds)
  else if wordL text = kOfferW then doG s (wordL text) (readF ⟨#[100, 100]⟩ text) (fun _ ds => offerF s ds)
  else (s, ByteArray.empty, 3)

/-- a state as changes make it. -/
structure Good (s : St) : Prop where
  sized : Sized s
  nums : Nums s
  tastes : Tastes s
  orders : ∀ o ∈ s.orders, 0 ≤ o ∧ o < s.leaves.length
  names : ∀ l ∈ s.leaves, nameOk l.name = true
  offers : ∀ o ∈ s.offers, (0 ≤ o.x ∧ o.x ≤ 30) ∧ (0 ≤ o.y ∧ o.y ≤ 30)
theorem Good.zero : Good St.zero := by
  refine ⟨⟨by simp [St.zero], by simp [St.zero], by simp [St.zero]⟩, fun i hi => by simp [St.zero] at hi, ⟨by simp [St.zero], by simp [St.zero], by simp [St.zero], by simp [St.zero], by simp [St.zero, sumT]⟩, fun o ho => by simp [St.zero] at ho, fun l hl => by simp [St.zero] at hl, fun o ho => by simp [St.zero] at ho⟩
theorem Tastes.of {s s' : St} (h : Tastes s) (h0 : s'.t0 = s.t0) (h1 : s'.t1 = s.t1) (h2 : s'.t2 = s.t2) (h3 : s'.t3 = s.t3) : Tastes s' :=
  ⟨by rw [h0]; exact h.p0, by rw [h1]; exact h.p1, by rw [h2]; exact h.p2, by rw [h3]; exact h.p3, by unfold sumT; rw [h0, h1, h2, h3]; exact h.most⟩
theorem stock_snoc_lt (s : St) (ls : List Leaf) (x : Leaf) (i : Nat) (hi : i < ls.length) : ((ls ++ [x]).getD i default) = ls.getD i default := by
  rw [List.getD_eq_getElem?_getD, List.getD_eq_getElem?_getD, List.getElem?_append_left hi]
theorem getD_snoc_eq {α : Type} (z : α) (ls : List α) (x : α) : ((ls ++ [x]).getD ls.length z) = x := by
  rw [List.getD_eq_getElem?_getD, List.getElem?_append_right (Nat.le_refl _)]; simp
theorem leafF_good {s : St} (h : Good s) {ns : List ByteArray} {ds : List Int} (hn : nameOk (name0 ns) = true) (hd : 0 ≤ num0 ds) : Good (leafF s ns ds).1 := by
  unfold leafF
  split
  · exact h
  · split
    · exact h
    · split
      · exact h
      · rename_i h1 h2 h3
        refine ⟨⟨?_, h.sized.orders, h.sized.offers⟩, fun i hi => ?_, h.tastes.of rfl rfl rfl rfl, fun o ho => ?_, fun l hl => ?_, h.offers⟩
        · have := h.sized.leaves
          show (s.leaves ++ [_]).length ≤ 6
          rw [List.length_append, List.length_singleton]; omega
        · have hi2 : i < s.leaves.length + 1 := by
            have : i < (s.leaves ++ [(⟨name0 ns, num0 ds⟩ : Leaf)]).length := hi
            rwa [List.length_append, List.length_singleton] at this
          show 0 ≤ ((s.leaves ++ [(⟨name0 ns, num0 ds⟩ : Leaf)]).getD i default).stock ∧ _
          show 0 ≤ ((s.leaves ++ [(⟨name0 ns, num0 ds⟩ : Leaf)]).getD i default).stock ∧ ((s.leaves ++ [(⟨name0 ns, num0 ds⟩ : Leaf)]).getD i default).stock ≤ 20
          rcases (show i < s.leaves.length ∨ i = s.leaves.length by omega) with h4 | rfl
          · rw [stock_snoc_lt s _ _ _ h4]; exact h.nums i h4
          · rw [getD_snoc_eq]; exact ⟨hd, by show num0 ds ≤ 20; omega⟩
        · have := h.orders o ho
          refine ⟨this.1, ?_⟩
          show o < ((s.leaves ++ [(⟨name0 ns, num0 ds⟩ : Leaf)]).length : Int)
          rw [List.length_append, List.length_singleton]; omega
        · rcases List.mem_append.mp hl with h4 | h4
          · exact h.names l h4
          · rw [List.mem_singleton.mp h4]; exact hn
theorem setStock_stock (s : St) (i k : Nat) (u : Int) (hi : i < s.leaves.length) : stock (s.setStock k u) i = if k = i then u else stock s i := by
  unfold stock St.setStock
  show ((s.leaves.set k _).getD i default).stock = _
  rw [List.getD_eq_getElem?_getD, List.getElem?_set]
  by_cases h : k = i
  · subst h; rw [if_pos rfl, if_pos hi, if_pos rfl]; rfl
  · rw [if_neg h, if_neg h, ← List.getD_eq_getElem?_getD]
theorem setStock_name (s : St) (i k : Nat) (u : Int) : ((s.setStock k u).leaves.getD i default).name = (s.leaves.getD i default).name := by
  unfold St.setStock
  show ((s.leaves.set k _).getD i default).name = _
  rw [List.getD_eq_getElem?_getD, List.getElem?_set]
  by_cases h : k = i
  · subst h
    rw [if_pos rfl]
    by_cases hk : k < s.leaves.length
    · rw [if_pos hk]; rfl
    · rw [if_neg hk, List.getD_eq_getElem?_getD, List.getElem?_eq_none (by omega)]
  · rw [if_neg h, ← List.getD_eq_getElem?_getD]
theorem names_of {s s' : St} (h : Good s) (hl : s'.leaves.length = s.leaves.length) (hn : ∀ i, (s'.leaves.getD i default).name = (s.leaves.getD i default).name) : ∀ l ∈ s'.leaves, nameOk l.name = true := by
  intro l hm
  obtain ⟨i, hi, rfl⟩ := List.getElem_of_mem hm
  have e : s'.leaves[i] = s'.leaves.getD i default := by rw [List.getD_eq_getElem?_getD, List.getElem?_eq_getElem hi]; rfl
  rw [e, hn i]
  exact h.names _ (getD_mem (by omega))
theorem orderF_good {s : St} (h : Good s) (ns : List ByteArray) : Good (orderF s ns).1 := by
  unfold orderF
  have hf := findF_lt s (name0 ns)
  dsimp only
  split
  · exact h
  · split
    · exact h
    · split
      · exact h
      · rename_i h1 h2 h3
        have hi : (findF s (name0 ns)).toNat < s.leaves.length := by omega
        have hl : (s.setStock (findF s (name0 ns)).toNat (stock s (findF s (name0 ns)).toNat - 1)).leaves.length = s.leaves.length := setStock_length _ _ _
        refine ⟨⟨by show (s.setStock _ _).leaves.length ≤ 6; rw [hl]; exact h.sized.leaves, ?_, h.sized.offers⟩, fun i hi2 => ?_, h.tastes.of rfl rfl rfl rfl, fun o ho => ?_, names_of h hl (fun i => setStock_name _ _ _ _), h.offers⟩
        · have := h.sized.orders
          show (s.orders ++ [_]).length ≤ 40
          rw [List.length_append, List.length_singleton]; omega
        · have hi3 : i < s.leaves.length := by rw [← hl]; exact hi2
          have e := setStock_stock s i (findF s (name0 ns)).toNat (stock s (findF s (name0 ns)).toNat - 1) hi3
          show 0 ≤ stock (s.setStock (findF s (name0 ns)).toNat (stock s (findF s (name0 ns)).toNat - 1)) i ∧ stock (s.setStock (findF s (name0 ns)).toNat (stock s (findF s (name0 ns)).toNat - 1)) i ≤ 20
          rw [e]
          have h4 := h.nums _ hi
          have h5 := h.nums i hi3
          split <;> omega
        · show 0 ≤ o ∧ o < ((s.setStock _ _).leaves.length : Int)
          rw [hl]
          rcases List.mem_append.mp ho with h4 | h4
          · exact h.orders o h4
          · rw [List.mem_singleton.mp h4]; omega
theorem stepStocks_stock (s : St) (ys : List Int) : ∀ (k i : Nat), i < s.leaves.length → stock (stepStocks s ys k) i = if i < k then ys.getD i 0 else stock s i := by
  intro k
  induction k with
  | zero => intro i _; rw [if_neg (by omega)]; rfl
  | succ k ih =>
    intro i hi
    rw [stepStocks, setStock_stock _ _ _ _ (by rw [stepStocks_length]; exact hi), ih i hi]
    by_cases h : k = i
    · subst h; rw [if_pos rfl, if_pos (by omega)]
    · rw [if_neg h]
      by_cases h2 : i < k
      · rw [if_pos h2, if_pos (by omega)]
      · rw [if_neg h2, if_neg (by omega)]
theorem stepStocks_name (s : St) (ys : List Int) : ∀ (k i : Nat), ((stepStocks s ys k).leaves.getD i default).name = (s.leaves.getD i default).name := by
  intro k
  induction k with
  | zero => intro i; rfl
  | succ k ih => intro i; rw [stepStocks, setStock_name, ih]
theorem stepStocks_rest (s : St) (ys : List Int) : ∀ k, (stepStocks s ys k).orders = s.orders ∧ (stepStocks s ys k).offers = s.offers ∧ (stepStocks s ys k).t0 = s.t0 ∧ (stepStocks s ys k).t1 = s.t1 ∧ (stepStocks s ys k).t2 = s.t2 ∧ (stepStocks s ys k).t3 = s.t3 := by
  intro k
  induction k with
  | zero => exact ⟨rfl, rfl, rfl, rfl, rfl, rfl⟩
  | succ k ih => exact ih
/-- what a checked give makes are shares. -/
theorem moved_share {xs : List Int} (hx : inShare xs) {i j : Nat} {m : Int} (hi : i < xs.length) (hj : j < xs.length) (hg : giveB xs i j m) : inShare (moved xs i j m) := by
  obtain ⟨h1, h2, h3, h4⟩ := hg
  have pi := hx _ (getD_mem (z := (0 : Int)) hi)
  have pj := hx _ (getD_mem (z := (0 : Int)) hj)
  intro x hm
  unfold moved at hm
  rcases List.mem_or_eq_of_mem_set hm with h5 | h5
  · rcases List.mem_or_eq_of_mem_set h5 with h6 | h6
    · exact hx x h6
    · omega
  · omega
theorem giveF_good {s : St} (h : Good s) (ns : List ByteArray) (ds : List Int) : Good (giveF s ns ds).1 := by
  unfold giveF giveG
  have hl1 := findF_lt s (name0 ns)
  have hl2 := findF_lt s (name1 ns)
  split
  · exact h
  · rename_i h1
    split
    · rename_i hc
      have hi : (findF s (name0 ns)).toNat < (stocksF s).length := by rw [stocksF_length]; omega
      have hj : (findF s (name1 ns)).toNat < (stocksF s).length := by rw [stocksF_length]; omega
      unfold checkB at hc
      obtain ⟨_, hc2⟩ := Bool.and_eq_true_iff.mp hc
      obtain ⟨hg, he⟩ := Bool.and_eq_true_iff.mp hc2
      have hsh := moved_share (inShare_of h.nums) hi hj (of_decide_eq_true hg)
      have he2 := beq_iff_eq.mp he
      rw [he2] at hsh
      have hyl := afterL_length (stocksF s) (findF s (name0 ns)).toNat (findF s (name1 ns)).toNat (num0 ds)
      generalize afterL (stocksF s) (findF s (name0 ns)).toNat (findF s (name1 ns)).toNat (num0 ds) = ys at hsh hyl
      rw [stocksF_length] at hyl
      obtain ⟨r1, r2, r3, r4, r5, r6⟩ := stepStocks_rest s ys s.leaves.length
      have hl := stepStocks_length s ys s.leaves.length
      refine ⟨⟨by rw [hl]; exact h.sized.leaves, by rw [r1]; exact h.sized.orders, by rw [r2]; exact h.sized.offers⟩, fun i hi2 => ?_, ⟨by rw [r3]; exact h.tastes.p0, by rw [r4]; exact h.tastes.p1, by rw [r5]; exact h.tastes.p2, by rw [r6]; exact h.tastes.p3, by unfold sumT; rw [r3, r4, r5, r6]; exact h.tastes.most⟩,
        fun o ho => by rw [r1] at ho; rw [hl]; exact h.orders o ho, names_of h hl (fun i => stepStocks_name _ _ _ _), fun o ho => by rw [r2] at ho; exact h.offers o ho⟩
      rw [hl] at hi2
      rw [stepStocks_stock s ys _ i hi2, if_pos hi2]
      exact hsh _ (getD_mem (by omega))
    · exact h
theorem tasteF_good {s : St} (h : Good s) {ds : List Int} (h0 : 0 ≤ num0 ds) (h1 : 0 ≤ num1 ds) : Good (tasteF s ds).1 := by
  unfold tasteF tasteG
  split
  · exact h
  · split
    · exact h
    · rename_i h2 h3
      have hm := h.tastes.most
      have a0 := h.tastes.p0
      have a1 := h.tastes.p1
      have a2 := h.tastes.p2
      have a3 := h.tastes.p3
      have hl : (s.bump (num0 ds) (num1 ds)).leaves = s.leaves ∧ (s.bump (num0 ds) (num1 ds)).orders = s.orders ∧ (s.bump (num0 ds) (num1 ds)).offers = s.offers := by
        unfold St.bump; split <;> split <;> exact ⟨rfl, rfl, rfl⟩
      refine ⟨⟨by rw [hl.1]; exact h.sized.leaves, by rw [hl.2.1]; exact h.sized.orders, by rw [hl.2.2]; exact h.sized.offers⟩, fun i hi => ?_, ?_, fun o ho => by rw [hl.2.1] at ho; rw [hl.1]; exact h.orders o ho, fun l hm => by rw [hl.1] at hm; exact h.names l hm, fun o ho => by rw [hl.2.2] at ho; exact h.offers o ho⟩
      · unfold stock; rw [hl.1] at hi ⊢; exact h.nums i hi
      · unfold sumT at hm h3
        unfold St.bump
        split <;> split <;> exact ⟨by simp only; omega, by simp only; omega, by simp only; omega, by simp only; omega, by simp only [sumT]; omega⟩
theorem offerF_good {s : St} (h : Good s) {ds : List Int} (h0 : 0 ≤ num0 ds) (h1 : 0 ≤ num1 ds) : Good (offerF s ds).1 := by
  unfold offerF offerG
  split
  · exact h
  · split
    · exact h
    · split
      · exact h
      · rename_i h2 h3 h4
        refine ⟨⟨h.sized.leaves, h.sized.orders, ?_⟩, h.nums, h.tastes.of rfl rfl rfl rfl, h.orders, h.names, fun o ho => ?_⟩
        · have := h.sized.offers
          show (s.offers ++ [_]).length ≤ 8
          rw [List.length_append, List.length_singleton]; omega
        · rcases List.mem_append.mp ho with h5 | h5
          · exact h.offers o h5
          · rw [List.mem_singleton.mp h5]
            exact ⟨⟨h0, by show num0 ds ≤ 30; omega⟩, ⟨h1, by show num1 ds ≤ 30; omega⟩⟩
theorem name0_ok {ns : List ByteArray} (hl : 0 < ns.length) (h : ∀ x ∈ ns, nameOk x = true) : nameOk (name0 ns) = true := h _ (getD_mem hl)
theorem num0_ok {ds : List Int} (hl : 0 < ds.length) (h : ∀ d ∈ ds, 0 ≤ d ∧ d ≤ 999) : 0 ≤ num0 ds ∧ num0 ds ≤ 999 := h _ (getD_mem hl)
theorem num1_ok {ds : List Int} (hl : 1 < ds.length) (h : ∀ d ∈ ds, 0 ≤ d ∧ d ≤ 999) : 0 ≤ num1 ds ∧ num1 ds ≤ 999 := h _ (getD_mem hl)
theorem doG_good {s : St} (h : Good s) (wl : List UInt8) (r : Option (List ByteArray × List Int)) (act : List ByteArray → List Int → St × Int) (ha : ∀ ns ds, r = some (ns, ds) → Good (act ns ds).1) : Good (doG s wl r act).1 := by
  cases r with
  | none => exact h
  | some p =>
    obtain ⟨ns, ds⟩ := p
    have := ha ns ds rfl
    unfold doG
    dsimp only
    split
    · exact this
    · exact h
theorem doF_good {s : St} (h : Good s) (text : ByteArray) : Good (doF s text).1 := by
  have c2 : (⟨#[110, 100]⟩ : ByteArray).data.toList.count 110 = 1 := by decide
  have c5 : (⟨#[100, 100]⟩ : ByteArray).data.toList.count 110 = 0 := by decide
  have z2 : (⟨#[110, 100]⟩ : ByteArray).size = 2 := by decide
  have z5 : (⟨#[100, 100]⟩ : ByteArray).size = 2 := by decide
  unfold doF
  split
  · exact doG_good h _ _ _ (fun ns ds hr => by
      obtain ⟨h1, h2, h3, h4, _⟩ := readF_counts hr
      exact leafF_good h (name0_ok (by omega) h4) (num0_ok (by omega) h3).1)
  · split
    · exact doG_good h _ _ _ (fun ns ds hr => giveF_good h ns ds)
    · split
      · exact doG_good h _ _ _ (fun ns ds hr => orderF_good h ns)
      · split
        · exact doG_good h _ _ _ (fun ns ds hr => by
            obtain ⟨h1, h2, h3, h4, _⟩ := readF_counts hr
            exact tasteF_good h (num0_ok (by omega) h3).1 (num1_ok (by omega) h3).1)
        · split
          · exact doG_good h _ _ _ (fun ns ds hr => by
              obtain ⟨h1, h2, h3, h4, _⟩ := readF_counts hr
              exact offerF_good h (num0_ok (by omega) h3).1 (num1_ok (by omega) h3).1)
          · exact h
end Go.Proofs.YtccnfbjdpgmlhaaGreatDoor
