/- A net's text read: the plain side: both ways read back the text of every net, so they agree. -/
import Derived.Test.YtmoelgbbgepckaaDoorPyNetTx
import Derived.Test.YtmoelgbbgepckaaDoorPyParD
namespace Go.Proofs.YtmoelgbbgepckaaDoor
open Go.RowKit
set_option linter.unusedVariables false

/-- What the program reads of a word. -/
def wvI (b : UInt8) (v : ByteArray) : Int × Int := (rnV ((splitS v b).getD 0 ByteArray.empty), rnV ((splitS v b).getD 1 ByteArray.empty))
def wokI (b : UInt8) (v : ByteArray) : Bool := (splitS v b).all rnOk && decide ((splitS v b).length = 2)
/-- What the reference reads of a word. -/
def pairS (b : UInt8) (v : ByteArray) : Int × Int := if (splitS v b).length = 2 then (readS ((splitS v b).getD 0 ByteArray.empty), readS ((splitS v b).getD 1 ByteArray.empty)) else (-1, -1)
def pnI (s : ByteArray) : Option (List (Int × Int) × List (Int × Int)) :=
  if (wordsF (cutA s 124)).all (wokI 47) && (wordsF (cutB s 124)).all (wokI 58) && netB ((wordsF (cutA s 124)).map (wvI 47)) ((wordsF (cutB s 124)).map (wvI 58)) && decide (nxT ((wordsF (cutA s 124)).map (wvI 47)) ((wordsF (cutB s 124)).map (wvI 58)) = s)
  then some ((wordsF (cutA s 124)).map (wvI 47), (wordsF (cutB s 124)).map (wvI 58)) else none
/-- The reference's state behind some words. -/
structure PnSt where
  h : Bool
  M : List (Int × Int)
  H : List (Int × Int)
def pnStep (st : PnSt) (v : ByteArray) : PnSt :=
  if v = ⟨#[124]⟩ then { st with h := true } else if st.h then { st with H := st.H ++ [pairS 58 v] } else { st with M := st.M ++ [pairS 47 v] }
def pnRun (ws : List ByteArray) : PnSt := ws.foldl pnStep ⟨false, [], []⟩
def pnS (s : ByteArray) : Option (List (Int × Int) × List (Int × Int)) :=
  if decide (s.size ≤ 300) && decide ((splitS s 32).length ≤ 21) && netB (pnRun (splitS s 32)).M (pnRun (splitS s 32)).H && decide (nxT (pnRun (splitS s 32)).M (pnRun (splitS s 32)).H = s)
  then some ((pnRun (splitS s 32)).M, (pnRun (splitS s 32)).H) else none
theorem pnI_some {s : ByteArray} {M H : List (Int × Int)} (h : pnI s = some (M, H)) : netB M H = true ∧ nxT M H = s := by
  unfold pnI at h
  split at h
  · rename_i hc
    simp only [Bool.and_eq_true, decide_eq_true_eq] at hc
    injection h with h
    injection h with h1 h2
    subst h1 h2
    exact ⟨hc.1.2, hc.2⟩
  · cases h
theorem pnS_some {s : ByteArray} {M H : List (Int × Int)} (h : pnS s = some (M, H)) : netB M H = true ∧ nxT M H = s := by
  unfold pnS at h
  split at h
  · rename_i hc
    simp only [Bool.and_eq_true, decide_eq_true_eq] at hc
    injection h with h
    injection h with h1 h2
    subst h1 h2
    exact ⟨hc.1.2, hc.2⟩
  · cases h

section
variable {M H : List (Int × Int)}
theorem minus_one : rnV (itx (-1)) = -1 ∧ rnOk (itx (-1)) = true ∧ readS (itx (-1)) = -1 := by
  have h : Lib.itoa (-1) = [45, 49] := by
    rw [Lib.itoa, if_pos (by omega)]
    show 45 :: Lib.decDigits 1 = _
    rw [Lib.decDigits_one (by omega)]; rfl
  have ha : Lib.atoiAll [45, 49] = .ok (-1) := by decide
  have hl : (itx (-1)).data.toList = [45, 49] := by rw [itx, bt1_list, h]
  refine ⟨by rw [rnV, hl, ha], by rw [rnOk, hl, ha]; simp [h], ?_⟩
  have e : itx (-1) = ⟨#[45, 49]⟩ := by rw [itx, h]; rfl
  rw [e]
  decide
theorem itx_read {p : Int} (h0 : -1 ≤ p) (h1 : p < 10) : rnV (itx p) = p ∧ rnOk (itx p) = true ∧ readS (itx p) = p := by
  by_cases h : 0 ≤ p
  · rw [itx_int h, rnV_txt _ (by omega), rnOk_txt _ (by omega), readS_txt _ (by omega)]
    exact ⟨by omega, rfl, by omega⟩
  · have : p = -1 := by omega
    rw [this]; exact minus_one
theorem itoa_no {p : Int} (h0 : -1 ≤ p) : ∀ c ∈ Lib.itoa p, c ≠ 32 ∧ c ≠ 47 ∧ c ≠ 124 ∧ Lib.isSp c = false ∧ c.toNat < 128 := by
  intro c hc
  by_cases h : 0 ≤ p
  · obtain ⟨n, rfl⟩ := Int.eq_ofNat_of_zero_le h
    rw [Lib.itoa_nonneg] at hc
    have := dig_facts (dec_digs _ c hc)
    exact ⟨this.1, this.2.2.1, this.2.2.2.2.2.2.1, this.2.2.2.2.2.2.2.1, this.2.2.2.2.2.2.2.2⟩
  · rw [Lib.itoa, if_pos (by omega)] at hc
    rcases List.mem_cons.1 hc with rfl | hc
    · decide
    · have := dig_facts (dec_digs _ c hc)
      exact ⟨this.1, this.2.2.1, this.2.2.2.2.2.2.1, this.2.2.2.2.2.2.2.1, this.2.2.2.2.2.2.2.2⟩
theorem nm_no {x : Int × Int} (h0 : -1 ≤ x.1) : ∀ c ∈ nmL x, c ≠ 32 ∧ c ≠ 124 ∧ Lib.isSp c = false ∧ c.toNat < 128 := by
  intro c hc
  rw [nmL, List.mem_append, List.mem_cons] at hc
  rcases hc with hc | rfl | hc
  · have := itoa_no h0 c hc; exact ⟨this.1, this.2.2.1, this.2.2.2.1, this.2.2.2.2⟩
  · decide
  · have := dig_facts (dec_digs _ c hc)
    exact ⟨this.1, this.2.2.2.2.2.2.1, this.2.2.2.2.2.2.2.1, this.2.2.2.2.2.2.2.2⟩
theorem nh_no (x : Int × Int) : ∀ c ∈ nhL x, c ≠ 32 ∧ c ≠ 124 ∧ Lib.isSp c = false ∧ c.toNat < 128 := by
  intro c hc
  rw [nhL, List.mem_append, List.mem_cons] at hc
  rcases hc with hc | rfl | hc
  · have := dig_facts (dec_digs _ c hc)
    exact ⟨this.1, this.2.2.2.2.2.2.1, this.2.2.2.2.2.2.2.1, this.2.2.2.2.2.2.2.2⟩
  · decide
  · have := dig_facts (dec_digs _ c hc)
    exact ⟨this.1, this.2.2.2.2.2.2.1, this.2.2.2.2.2.2.2.1, this.2.2.2.2.2.2.2.2⟩
theorem nm_split (hk : NetOk M H) {x : Int × Int} (h : x ∈ M) : splitS (bt1 (nmL x)) 47 = [itx x.1, txt x.2.toNat] := by
  have hf := main_facts hk h
  apply lists_eq
  rw [splitS_list, bt1_list, nmL, splitL_cut _ (fun c hc => (itoa_no hf.1 c hc).2.1), splitL_none (fun c hc => (dig_facts (dec_digs _ c hc)).2.2.1)]
  rfl
theorem nh_split (x : Int × Int) : splitS (bt1 (nhL x)) 58 = [txt x.1.toNat, txt x.2.toNat] := by
  apply lists_eq
  rw [splitS_list, bt1_list, nhL, splitL_cut _ (fun c hc => (dig_facts (dec_digs _ c hc)).2.2.2.1), splitL_none (fun c hc => (dig_facts (dec_digs _ c hc)).2.2.2.1)]
  rfl
theorem nm_word (hk : NetOk M H) {x : Int × Int} (h : x ∈ M) : wvI 47 (bt1 (nmL x)) = x ∧ wokI 47 (bt1 (nmL x)) = true ∧ pairS 47 (bt1 (nmL x)) = x := by
  have hf := main_facts hk h
  obtain ⟨e1, e2, e3⟩ := itx_read hf.1 hf.2.1
  have hn : ((x.2.toNat : Nat) : Int) = x.2 := by omega
  unfold wvI wokI pairS
  rw [nm_split hk h]
  simp only [List.getD_cons_zero, List.getD_cons_succ, List.all_cons, List.all_nil, List.length_cons, List.length_nil, e1, e2, e3, rnV_txt _ (show x.2.toNat < 9223372036854775808 by omega), rnOk_txt _ (show x.2.toNat < 9223372036854775808 by omega), readS_txt _ (show x.2.toNat < 1000000 by omega), hn]
  simp
theorem nh_word (hk : NetOk M H) {x : Int × Int} (h : x ∈ H) : wvI 58 (bt1 (nhL x)) = x ∧ wokI 58 (bt1 (nhL x)) = true ∧ pairS 58 (bt1 (nhL x)) = x := by
  have hf := hyd_facts hk h
  have h1 : ((x.1.toNat : Nat) : Int) = x.1 := by omega
  have hn : ((x.2.toNat : Nat) : Int) = x.2 := by omega
  unfold wvI wokI pairS
  rw [nh_split x]
  simp only [List.getD_cons_zero, List.getD_cons_succ, List.all_cons, List.all_nil, List.length_cons, List.length_nil, rnV_txt _ (show x.1.toNat < 9223372036854775808 by omega), rnOk_txt _ (show x.1.toNat < 9223372036854775808 by omega), readS_txt _ (show x.1.toNat < 1000000 by omega), h1, rnV_txt _ (show x.2.toNat < 9223372036854775808 by omega), rnOk_txt _ (show x.2.toNat < 9223372036854775808 by omega), readS_txt _ (show x.2.toNat < 1000000 by omega), hn]
  simp
theorem nm_bar (x : Int × Int) : bt1 (nmL x) ≠ ⟨#[124]⟩ := by
  intro e
  have h := congrArg (fun b : ByteArray => b.data.toList) e
  have h2 : (47 : UInt8) ∈ nmL x := by simp [nmL]
  have h3 : nmL x = [124] := h
  rw [h3] at h2
  simp at h2
theorem nh_bar (x : Int × Int) : bt1 (nhL x) ≠ ⟨#[124]⟩ := by
  intro e
  have h := congrArg (fun b : ByteArray => b.data.toList) e
  have h2 : (58 : UInt8) ∈ nhL x := by simp [nhL]
  have h3 : nhL x = [124] := h
  rw [h3] at h2
  simp at h2
theorem ascii_words {ws : List (List UInt8)} (h : ∀ v ∈ ws, ∀ c ∈ v, c.toNat < 128) : (∀ b ∈ ws.flatMap (· ++ [32]), b.toNat < 128) ∧ (∀ b ∈ ws.flatMap (32 :: ·), b.toNat < 128) := by
  constructor
  · intro b hb
    obtain ⟨v, hv, hbv⟩ := List.mem_flatMap.1 hb
    rw [List.mem_append, List.mem_singleton] at hbv
    rcases hbv with hbv | rfl
    · exact h v hv b hbv
    · decide
  · intro b hb
    obtain ⟨v, hv, hbv⟩ := List.mem_flatMap.1 hb
    rcases List.mem_cons.1 hbv with rfl | hbv
    · decide
    · exact h v hv b hbv
theorem word_ne (x : Int × Int) : nmL x ≠ [] ∧ nhL x ≠ [] := by
  constructor <;> intro e <;> have := congrArg List.length e <;> simp [nmL, nhL] at this
/-- The program reads back the text of every net. -/
theorem net_back_I (hb : netB M H = true) {s : ByteArray} (h : nxT M H = s) : pnI s = some (M, H) := by
  have hk := netB_ok hb
  have hl : s.data.toList = (M.map nmL).flatMap (· ++ [32]) ++ 124 :: (H.map nhL).flatMap (32 :: ·) := by rw [← h, nxT_list]
  have hnb : ∀ c ∈ (M.map nmL).flatMap (· ++ [32]), c ≠ 124 := by
    intro c hc
    obtain ⟨v, hv, hcv⟩ := List.mem_flatMap.1 hc
    obtain ⟨x, hx, rfl⟩ := List.mem_map.1 hv
    rw [List.mem_append, List.mem_singleton] at hcv
    rcases hcv with hcv | rfl
    · exact (nm_no (main_facts hk hx).1 c hcv).2.1
    · decide
  have hc := cut_byte (r := (H.map nhL).flatMap (32 :: ·)) hnb
  rw [← hl] at hc
  have ha : (cutA s 124).data.toList = (M.map nmL).flatMap (· ++ [32]) := by rw [cutA, hc]
  have hbb : (cutB s 124).data.toList = (H.map nhL).flatMap (32 :: ·) := by rw [cutB, hc]
  have hwm : wordsF (cutA s 124) = M.map fun x => bt1 (nmL x) := by
    have hasc := (ascii_words (ws := M.map nmL) (by
      intro v hv c hcv
      obtain ⟨x, hx, rfl⟩ := List.mem_map.1 hv
      exact (nm_no (main_facts hk hx).1 c hcv).2.2.2)).1
    rw [wordsF, ha, Lib.fieldsD_ascii _ hasc, fields_ends (ws := M.map nmL) (by
      intro v hv
      obtain ⟨x, hx, rfl⟩ := List.mem_map.1 hv
      exact ⟨(word_ne x).1, fun c hc => (nm_no (main_facts hk hx).1 c hc).2.2.1⟩), List.map_map]
    rfl
  have hwh : wordsF (cutB s 124) = H.map fun x => bt1 (nhL x) := by
    have hasc := (ascii_words (ws := H.map nhL) (by
      intro v hv c hcv
      obtain ⟨x, hx, rfl⟩ := List.mem_map.1 hv
      exact (nh_no x c hcv).2.2.2)).2
    rw [wordsF, hbb, Lib.fieldsD_ascii _ hasc, fields_begins (ws := H.map nhL) (by
      intro v hv
      obtain ⟨x, hx, rfl⟩ := List.mem_map.1 hv
      exact ⟨(word_ne x).2, fun c hc => (nh_no x c hc).2.2.1⟩), List.map_map]
    rfl
  have m1 : (M.map fun x => bt1 (nmL x)).map (wvI 47) = M := by
    rw [List.map_map]
    have : ∀ x ∈ M, (wvI 47 ∘ fun x => bt1 (nmL x)) x = id x := fun x hx => (nm_word hk hx).1
    rw [List.map_congr_left this, List.map_id]
  have m2 : (H.map fun x => bt1 (nhL x)).map (wvI 58) = H := by
    rw [List.map_map]
    have : ∀ x ∈ H, (wvI 58 ∘ fun x => bt1 (nhL x)) x = id x := fun x hx => (nh_word hk hx).1
    rw [List.map_congr_left this, List.map_id]
  have o1 : (M.map fun x => bt1 (nmL x)).all (wokI 47) = true := by
    rw [List.all_map, List.all_eq_true]
    exact fun x hx => (nm_word hk hx).2.1
  have o2 : (H.map fun x => bt1 (nhL x)).all (wokI 58) = true := by
    rw [List.all_map, List.all_eq_true]
    exact fun x hx => (nh_word hk hx).2.1
  rw [pnI, hwm, hwh, m1, m2, o1, o2, hb, decide_eq_true h]
  rfl
theorem run_mains (hk : NetOk M H) : ∀ (L A : List (Int × Int)), (∀ x ∈ L, x ∈ M) → (L.map fun x => bt1 (nmL x)).foldl pnStep ⟨false, A, []⟩ = ⟨false, A ++ L, []⟩
  | [], A, _ => by simp
  | x :: L, A, h => by
    have hx := nm_word hk (h x (List.mem_cons_self ..))
    have e : pnStep ⟨false, A, []⟩ (bt1 (nmL x)) = ⟨false, A ++ [x], []⟩ := by
      unfold pnStep
      rw [if_neg (nm_bar x), hx.2.2]
      rfl
    rw [List.map_cons, List.foldl_cons, e, run_mains hk L (A ++ [x]) (fun y hy => h y (List.mem_cons_of_mem _ hy))]
    simp
theorem run_hyds (hk : NetOk M H) (A : List (Int × Int)) : ∀ (L B : List (Int × Int)), (∀ x ∈ L, x ∈ H) → (L.map fun x => bt1 (nhL x)).foldl pnStep ⟨true, A, B⟩ = ⟨true, A, B ++ L⟩
  | [], B, _ => by simp
  | x :: L, B, h => by
    have hx := nh_word hk (h x (List.mem_cons_self ..))
    have e : pnStep ⟨true, A, B⟩ (bt1 (nhL x)) = ⟨true, A, B ++ [x]⟩ := by
      unfold pnStep
      rw [if_neg (nh_bar x), hx.2.2]
      rfl
    rw [List.map_cons, List.foldl_cons, e, run_hyds hk A L (B ++ [x]) (fun y hy => h y (List.mem_cons_of_mem _ hy))]
    simp
theorem split_ends {b : UInt8} (r : List UInt8) : ∀ {ps : List (List UInt8)}, (∀ p ∈ ps, ∀ x ∈ p, x ≠ b) → splitL b (ps.flatMap (· ++ [b]) ++ r) = ps ++ splitL b r
  | [], _ => rfl
  | p :: ps, h => by
    rw [List.flatMap_cons, List.append_assoc, List.append_assoc, List.singleton_append, splitL_cut _ (h p (List.mem_cons_self ..)), split_ends r (ps := ps) (fun q hq => h q (List.mem_cons_of_mem _ hq))]
    rfl
/-- And so does the reference. -/
theorem net_back_S (hb : netB M H = true) {s : ByteArray} (h : nxT M H = s) : pnS s = some (M, H) := by
  have hk := netB_ok hb
  have hl : s.data.toList = (M.map nmL).flatMap (· ++ [32]) ++ ([124] ++ (H.map nhL).flatMap (32 :: ·)) := by rw [← h, nxT_list]; rfl
  have hs : splitS s 32 = (M.map fun x => bt1 (nmL x)) ++ (⟨#[124]⟩ :: H.map fun x => bt1 (nhL x)) := by
    apply lists_eq
    rw [splitS_list, hl, split_ends _ (ps := M.map nmL) (by
      intro v hv c hcv
      obtain ⟨x, hx, rfl⟩ := List.mem_map.1 hv
      exact (nm_no (main_facts hk hx).1 c hcv).1), splitL_begins (ps := H.map nhL) (p := [124]) (by decide) (by
      intro v hv c hcv
      obtain ⟨x, hx, rfl⟩ := List.mem_map.1 hv
      exact (nh_no x c hcv).1), List.map_append, List.map_map, List.map_cons, List.map_map]
    rfl
  have hr : pnRun (splitS s 32) = ⟨true, M, H⟩ := by
    rw [pnRun, hs, List.foldl_append, run_mains hk M [] (fun _ hx => hx), List.foldl_cons]
    have e : pnStep ⟨false, [] ++ M, []⟩ ⟨#[124]⟩ = ⟨true, M, []⟩ := by
      unfold pnStep
      rw [if_pos rfl]
      rfl
    rw [e, run_hyds hk M H [] (fun _ hx => hx)]
    rfl
  have h21 : (splitS s 32).length ≤ 21 := by
    rw [hs]
    have := hk.m10
    have := hk.h10
    simp only [List.length_append, List.length_map, List.length_cons]
    omega
  have h300 : s.size ≤ 300 := by rw [← h]; exact nxT_size hk
  rw [pnS, hr, hb, decide_eq_true h, decide_eq_true h21, decide_eq_true h300]
  rfl
/-- Both ways agree. -/
theorem pn_same (s : ByteArray) : pnI s = pnS s := by
  cases h : pnI s with
  | some l => exact (net_back_S (pnI_some (M := l.1) (H := l.2) h).1 (pnI_some (M := l.1) (H := l.2) h).2).symm
  | none =>
    cases h2 : pnS s with
    | none => rfl
    | some l => rw [net_back_I (pnS_some (M := l.1) (H := l.2) h2).1 (pnS_some (M := l.1) (H := l.2) h2).2] at h; cases h
end
end Go.Proofs.YtmoelgbbgepckaaDoor
