/- A town's text read: the plain side: both ways read back the text of every town. -/
import Derived.Test.YtnbiknaihogknaaDoorPxParD
import Derived.Test.YtnbiknaihogknaaDoorTextT
namespace Go.Proofs.YtnbiknaihogknaaDoor
open Go.RowKit
set_option linter.unusedVariables false

/-- A street's word. -/
def ndL (x : StT) : List UInt8 := Lib.decDigits x.1.toNat ++ 45 :: Lib.decDigits x.2.1.toNat
def wdL (x : StT) : List UInt8 := ndL x ++ 61 :: Lib.decDigits x.2.2.toNat
theorem tt1_list (x : StT) : (tt1 x).data.toList = 32 :: wdL x := by
  simp [tt1, wdL, ndL, txt, ByteArray.data_append]
theorem ttN_list (k : Nat) (l : List StT) : ∀ j, j ≤ l.length → (ttN k l j).data.toList = (Lib.decDigits k ++ [58]) ++ ((l.take j).map wdL).flatMap (32 :: ·)
  | 0, _ => by simp [ttN, txt, ByteArray.data_append]
  | j + 1, h => by
    have hx : l[j]? = some l[j] := List.getElem?_eq_getElem (by omega)
    rw [ttN_succ hx, ByteArray.data_append, Array.toList_append, ttN_list k l j (by omega), tt1_list, List.take_succ_eq_append_getElem (by omega), List.map_append, List.flatMap_append]
    simp
theorem nd_no (x : StT) : ∀ c ∈ ndL x, c ≠ 61 ∧ c ≠ 32 ∧ Lib.isSp c = false ∧ c.toNat < 128 := by
  intro c hc
  rw [ndL, List.mem_append, List.mem_cons] at hc
  rcases hc with hc | rfl | hc
  · have := dig_facts (dec_digs _ c hc); exact ⟨this.2.2.2.2.2.1, this.1, this.2.2.2.2.2.2.2.1, this.2.2.2.2.2.2.2.2⟩
  · decide
  · have := dig_facts (dec_digs _ c hc); exact ⟨this.2.2.2.2.2.1, this.1, this.2.2.2.2.2.2.2.1, this.2.2.2.2.2.2.2.2⟩
theorem wd_no (x : StT) : ∀ c ∈ wdL x, c ≠ 32 ∧ Lib.isSp c = false ∧ c.toNat < 128 := by
  intro c hc
  rw [wdL, List.mem_append, List.mem_cons] at hc
  rcases hc with hc | rfl | hc
  · exact (nd_no x c hc).2
  · decide
  · have := dig_facts (dec_digs _ c hc); exact ⟨this.1, this.2.2.2.2.2.2.2.1, this.2.2.2.2.2.2.2.2⟩

/-- What the program reads of a word. -/
def strI (v : ByteArray) : StT := (rnV (cutA (cutA v 61) 45), rnV (cutB (cutA v 61) 45), rnV (cutB v 61))
def okI (v : ByteArray) : Bool := rnOk (cutA (cutA v 61) 45) && rnOk (cutB (cutA v 61) 45) && rnOk (cutB v 61)
def wordsI (s : ByteArray) : List ByteArray := wordsF (cutB s 58)
/-- What the reference reads of a word. -/
def strS (v : ByteArray) : StT :=
  let w := splitS v 61
  let u := splitS (w.headD ByteArray.empty) 45
  if w.length = 2 ∧ u.length = 2 then (readS (u.getD 0 ByteArray.empty), readS (u.getD 1 ByteArray.empty), readS (w.getD 1 ByteArray.empty)) else (-1, 0, 0)
def bt (l : List UInt8) : ByteArray := ⟨l.toArray⟩
theorem bt_list (l : List UInt8) : (bt l).data.toList = l := rfl
theorem fit_nat {k : Nat} {l : List StT} (hk : TownOk k l) {x : StT} (h : x ∈ l) : ((x.1.toNat : Int) = x.1 ∧ (x.2.1.toNat : Int) = x.2.1 ∧ (x.2.2.toNat : Int) = x.2.2) ∧ x.1.toNat < 1000000 ∧ x.2.1.toNat < 1000000 ∧ x.2.2.toNat < 1000000 := by
  have hf := fitB_iff.1 (hk.fits x h)
  have h14 := hk.hi
  omega
theorem word_cut (x : StT) : cutA (bt (wdL x)) 61 = bt (ndL x) ∧ cutB (bt (wdL x)) 61 = txt x.2.2.toNat ∧ cutA (bt (ndL x)) 45 = txt x.1.toNat ∧ cutB (bt (ndL x)) 45 = txt x.2.1.toNat := by
  have c1 : Lib.cut (wdL x) [61] = (ndL x, Lib.decDigits x.2.2.toNat, true) := cut_byte (fun c hc => (nd_no x c hc).1)
  have c2 : Lib.cut (ndL x) [45] = (Lib.decDigits x.1.toNat, Lib.decDigits x.2.1.toNat, true) := cut_byte (fun c hc => (dig_facts (dec_digs _ c hc)).2.1)
  unfold cutA cutB
  rw [bt_list, bt_list, c1, c2]
  exact ⟨rfl, rfl, rfl, rfl⟩
theorem wordI {k : Nat} {l : List StT} (hk : TownOk k l) {x : StT} (h : x ∈ l) : strI (bt (wdL x)) = x ∧ okI (bt (wdL x)) = true := by
  obtain ⟨⟨e0, e1, e2⟩, h0, h1, h2⟩ := fit_nat hk h
  obtain ⟨a, b, c, d⟩ := word_cut x
  unfold strI okI
  rw [a, b, c, d, rnV_txt _ (by omega), rnV_txt _ (by omega), rnV_txt _ (by omega), rnOk_txt _ (by omega), rnOk_txt _ (by omega), rnOk_txt _ (by omega), e0, e1, e2]
  exact ⟨rfl, rfl⟩
theorem wordS {k : Nat} {l : List StT} (hk : TownOk k l) {x : StT} (h : x ∈ l) : strS (bt (wdL x)) = x := by
  obtain ⟨⟨e0, e1, e2⟩, h0, h1, h2⟩ := fit_nat hk h
  have s1 : splitS (bt (wdL x)) 61 = [bt (ndL x), txt x.2.2.toNat] := by
    apply lists_eq
    rw [splitS_list, bt_list, wdL, splitL_cut _ (fun c hc => (nd_no x c hc).1), splitL_none (fun c hc => (dig_facts (dec_digs _ c hc)).2.2.2.2.2.1)]
    rfl
  have s2 : splitS (bt (ndL x)) 45 = [txt x.1.toNat, txt x.2.1.toNat] := by
    apply lists_eq
    rw [splitS_list, bt_list, ndL, splitL_cut _ (fun c hc => (dig_facts (dec_digs _ c hc)).2.1), splitL_none (fun c hc => (dig_facts (dec_digs _ c hc)).2.1)]
    rfl
  unfold strS
  rw [s1]
  show (if [bt (ndL x), txt x.2.2.toNat].length = 2 ∧ (splitS (bt (ndL x)) 45).length = 2 then (readS ((splitS (bt (ndL x)) 45).getD 0 ByteArray.empty), readS ((splitS (bt (ndL x)) 45).getD 1 ByteArray.empty), readS (txt x.2.2.toNat)) else (-1, 0, 0)) = x
  rw [s2]
  show (readS (txt x.1.toNat), readS (txt x.2.1.toNat), readS (txt x.2.2.toNat)) = x
  rw [readS_txt _ h0, readS_txt _ h1, readS_txt _ h2, e0, e1, e2]
theorem text_list {k : Nat} {l : List StT} : (ttN k l l.length).data.toList = (Lib.decDigits k ++ [58]) ++ (l.map wdL).flatMap (32 :: ·) := by
  rw [ttN_list k l _ (Nat.le_refl _), List.take_length]
theorem dec58 (k : Nat) : ∀ x ∈ Lib.decDigits k, x ≠ 58 := fun x hx => (dig_facts (dec_digs _ x hx)).2.2.2.1
theorem wd_ne (x : StT) : wdL x ≠ [] := by
  intro e
  have := congrArg List.length e
  simp [wdL] at this
/-- The program reads back the text of every town. -/
theorem readI {k : Nat} {l : List StT} (hk : TownOk k l) {s : ByteArray} (h : ttN k l l.length = s) : rnV (cutA s 58) = k ∧ rnOk (cutA s 58) = true ∧ (wordsI s).map strI = l ∧ (wordsI s).all okI = true := by
  have hl : s.data.toList = Lib.decDigits k ++ 58 :: (l.map wdL).flatMap (32 :: ·) := by rw [← h, text_list, List.append_assoc]; rfl
  have hc := cut_byte (r := (l.map wdL).flatMap (32 :: ·)) (dec58 k)
  rw [← hl] at hc
  have h14 := hk.hi
  have ha : cutA s 58 = txt k := by rw [cutA, hc]; rfl
  have hb : (cutB s 58).data.toList = (l.map wdL).flatMap (32 :: ·) := by rw [cutB, hc]
  have hw : wordsI s = l.map fun x => bt (wdL x) := by
    have hasc : ∀ b ∈ (l.map wdL).flatMap (32 :: ·), b.toNat < 128 := by
      intro b hb
      obtain ⟨v, hv, hbv⟩ := List.mem_flatMap.1 hb
      obtain ⟨x, _, rfl⟩ := List.mem_map.1 hv
      rcases List.mem_cons.1 hbv with rfl | hbv
      · decide
      · exact (wd_no x b hbv).2.2
    rw [wordsI, wordsF, hb, Lib.fieldsD_ascii _ hasc, fields_begins (ws := l.map wdL) (by
      intro v hv
      obtain ⟨x, _, rfl⟩ := List.mem_map.1 hv
      exact ⟨wd_ne x, fun c hc => (wd_no x c hc).2.1⟩), List.map_map]
    rfl
  rw [ha, hw]
  refine ⟨rnV_txt k (by omega), rnOk_txt k (by omega), ?_, ?_⟩
  · rw [List.map_map]
    have : ∀ x ∈ l, (strI ∘ fun x => bt (wdL x)) x = id x := fun x hx => (wordI hk hx).1
    rw [List.map_congr_left this, List.map_id]
  · rw [List.all_map, List.all_eq_true]
    exact fun x hx => (wordI hk hx).2
/-- And so does the reference. -/
theorem readT {k : Nat} {l : List StT} (hk : TownOk k l) {s : ByteArray} (h : ttN k l l.length = s) : ∃ w0 ws, splitS s 32 = w0 :: ws ∧ 2 ≤ w0.size ∧ w0.extract 0 (w0.size - 1) = txt k ∧ readS (w0.extract 0 (w0.size - 1)) = k ∧ ws.length = l.length ∧ ws.map strS = l := by
  have hl : s.data.toList = (Lib.decDigits k ++ [58]) ++ (l.map wdL).flatMap (32 :: ·) := by rw [← h, text_list]
  have h14 := hk.hi
  have hs : splitS s 32 = (txt k ++ ⟨#[58]⟩) :: l.map fun x => bt (wdL x) := by
    apply lists_eq
    rw [splitS_list, hl, splitL_begins (ps := l.map wdL) (p := Lib.decDigits k ++ [58]) (by
      intro x hx
      rw [List.mem_append, List.mem_singleton] at hx
      rcases hx with hx | rfl
      · exact (dig_facts (dec_digs _ x hx)).1
      · decide) (by
      intro v hv x hx
      obtain ⟨y, _, rfl⟩ := List.mem_map.1 hv
      exact (wd_no y x hx).1)]
    rw [List.map_cons, List.map_map]
    congr 1
  have hz : (txt k ++ ⟨#[58]⟩ : ByteArray).size = (txt k).size + 1 := by rw [ByteArray.size_append, size_lit]
  have he : (txt k ++ ⟨#[58]⟩ : ByteArray).extract 0 (txt k).size = txt k := by
    apply bytes_eq
    rw [extract_list, ByteArray.data_append, Array.toList_append, List.drop_zero]
    exact List.take_left' (by rfl)
  have hp : 1 ≤ (txt k).size := by
    have h1 : (txt k).size = Lib.nDigits k := by rw [← Lib.decDigits_length]; rfl
    rw [h1]; exact Lib.nDigits_pos k
  refine ⟨_, _, hs, by rw [hz]; omega, by rw [hz, Nat.add_sub_cancel, he], by rw [hz, Nat.add_sub_cancel, he]; exact readS_txt k (by omega), by simp, ?_⟩
  rw [List.map_map]
  have : ∀ x ∈ l, (strS ∘ fun x => bt (wdL x)) x = id x := fun x hx => wordS hk hx
  rw [List.map_congr_left this, List.map_id]
end Go.Proofs.YtnbiknaihogknaaDoor
