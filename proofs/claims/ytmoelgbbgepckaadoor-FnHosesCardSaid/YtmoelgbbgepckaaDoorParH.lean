/- A line's text read: the plain side: both ways read back the text of every line, so they agree. -/
import Derived.Test.YtmoelgbbgepckaaDoorParB
import Derived.Test.YtmoelgbbgepckaaDoorHoseT
namespace Go.Proofs.YtmoelgbbgepckaaDoor
open Go.RowKit
set_option linter.unusedVariables false

def hpL (x : Int × Int) : List UInt8 := UInt8.ofNat (97 + x.1.toNat) :: Lib.decDigits x.2.toNat
theorem th1_list (x : Int × Int) : (th1 x).data.toList = hpL x ++ [59] := by
  simp [th1, hpL, txt, ByteArray.data_append]
theorem thN_list (l : List (Int × Int)) : ∀ j, j ≤ l.length → (thN l j).data.toList = ((l.take j).map hpL).flatMap (· ++ [59])
  | 0, _ => by simp [thN]
  | j + 1, h => by
    have hx : l[j]? = some l[j] := List.getElem?_eq_getElem (by omega)
    rw [thN_succ hx, ByteArray.data_append, Array.toList_append, thN_list l j (by omega), th1_list, List.take_succ_eq_append_getElem (by omega), List.map_append, List.flatMap_append]
    simp
theorem kind_nat {k : Int} (h0 : 0 ≤ k) (h3 : k ≤ 3) : (UInt8.ofNat (97 + k.toNat)).toNat = 97 + k.toNat := UInt8.toNat_ofNat_of_lt' (show 97 + k.toNat < 256 by omega)
theorem hp_no {l : List (Int × Int)} (hl : lineB l = true) {x : Int × Int} (hx : x ∈ l) : ∀ c ∈ hpL x, c ≠ 59 := by
  obtain ⟨h0, h3, -, -⟩ := line_mem hl hx
  intro c hc
  rcases List.mem_cons.1 hc with rfl | hc
  · intro e
    have := congrArg UInt8.toNat e
    rw [kind_nat h0 h3, show (59 : UInt8).toNat = 59 from rfl] at this
    omega
  · exact (dig_facts (dec_digs _ c hc)).2.2.2.2.1

/-- What the program reads of a piece. -/
def hpI (p : ByteArray) : Int × Int := (((p.data.toList.headD 0).toNat : Int) - 97, rnV (p.extract 1 p.size))
def hokI (p : ByteArray) : Bool := decide (p.size ≠ 0) && rnOk (p.extract 1 p.size)
/-- What the reference reads of a piece. -/
def hpS (p : ByteArray) : Int × Int := (((p.data.toList.headD 0).toNat : Int) - 97, readS (p.extract 1 p.size))
def hokS (p : ByteArray) : Bool := decide (p.size ≠ 0)
theorem piece {l : List (Int × Int)} (hl : lineB l = true) {x : Int × Int} (hx : x ∈ l) : hpI (bt1 (hpL x)) = x ∧ hokI (bt1 (hpL x)) = true ∧ hpS (bt1 (hpL x)) = x ∧ hokS (bt1 (hpL x)) = true := by
  obtain ⟨h0, h3, h1, h5⟩ := line_mem hl hx
  have he : (bt1 (hpL x)).extract 1 (bt1 (hpL x)).size = txt x.2.toNat := (tail_extract (bt1_list (hpL x))).trans (bt1_txt _)
  have hz : (bt1 (hpL x)).size ≠ 0 := by
    show (hpL x).length ≠ 0
    simp [hpL]
  have hh : ((((bt1 (hpL x)).data.toList.headD 0).toNat : Int) - 97) = x.1 := by
    show (((UInt8.ofNat (97 + x.1.toNat)).toNat : Int) - 97) = x.1
    rw [kind_nat h0 h3]; omega
  have hn : ((x.2.toNat : Nat) : Int) = x.2 := by omega
  unfold hpI hokI hpS hokS
  rw [he, hh, rnV_txt _ (by omega), rnOk_txt _ (by omega), readS_txt _ (by omega), hn, decide_eq_true hz]
  exact ⟨rfl, rfl, rfl, rfl⟩

def trimS (s : ByteArray) : ByteArray := ⟨(Lib.trimSuffix s.data.toList [59]).toArray⟩
def lineText (l : List (Int × Int)) : ByteArray := thN l l.length
def phI (s : ByteArray) : Option (List (Int × Int)) :=
  if (splitS (trimS s) 59).all hokI && lineB ((splitS (trimS s) 59).map hpI) && decide (lineText ((splitS (trimS s) 59).map hpI) = s) then some ((splitS (trimS s) 59).map hpI) else none
def phS (s : ByteArray) : Option (List (Int × Int)) :=
  if decide ((splitS s 59).length ≤ 13) && (splitS s 59).dropLast.all hokS && lineB ((splitS s 59).dropLast.map hpS) && decide (lineText ((splitS s 59).dropLast.map hpS) = s) then some ((splitS s 59).dropLast.map hpS) else none
theorem phI_some {s : ByteArray} {l : List (Int × Int)} (h : phI s = some l) : lineB l = true ∧ lineText l = s := by
  unfold phI at h
  split at h
  · rename_i hc
    simp only [Bool.and_eq_true, decide_eq_true_eq] at hc
    injection h with h
    subst h
    exact ⟨hc.1.2, hc.2⟩
  · cases h
theorem phS_some {s : ByteArray} {l : List (Int × Int)} (h : phS s = some l) : lineB l = true ∧ lineText l = s := by
  unfold phS at h
  split at h
  · rename_i hc
    simp only [Bool.and_eq_true, decide_eq_true_eq] at hc
    injection h with h
    subst h
    exact ⟨hc.1.2, hc.2⟩
  · cases h
theorem line_list {l : List (Int × Int)} : (lineText l).data.toList = (l.map hpL).flatMap (· ++ [59]) := by
  rw [lineText, thN_list l _ (Nat.le_refl _), List.take_length]
theorem back_S {l : List (Int × Int)} (hl : lineB l = true) {s : ByteArray} (h : lineText l = s) : phS s = some l := by
  have hs : splitS s 59 = l.map (fun x => bt1 (hpL x)) ++ [bt1 []] := by
    apply lists_eq
    rw [splitS_list, ← h, line_list, splitL_ends (ps := l.map hpL) (by
      intro p hp x hx
      obtain ⟨y, hy, rfl⟩ := List.mem_map.1 hp
      exact hp_no hl hy x hx), List.map_append, List.map_map]
    rfl
  have hd : (splitS s 59).dropLast = l.map (fun x => bt1 (hpL x)) := by rw [hs, List.dropLast_concat]
  have hm : (l.map (fun x => bt1 (hpL x))).map hpS = l := by
    rw [List.map_map]
    have : ∀ x ∈ l, (hpS ∘ fun x => bt1 (hpL x)) x = id x := fun x hx => (piece hl hx).2.2.1
    rw [List.map_congr_left this, List.map_id]
  have hok : (l.map (fun x => bt1 (hpL x))).all hokS = true := by
    rw [List.all_map, List.all_eq_true]
    exact fun x hx => (piece hl hx).2.2.2
  have hlen : (splitS s 59).length ≤ 13 := by
    rw [hs]
    have := (lineB_iff hl).2.2
    simp only [List.length_append, List.length_map, List.length_singleton]
    omega
  rw [phS, hd, hm, hok, hl, decide_eq_true hlen, decide_eq_true h]
  rfl
theorem back_I {l : List (Int × Int)} (hl : lineB l = true) {s : ByteArray} (h : lineText l = s) : phI s = some l := by
  obtain ⟨x, r, rfl⟩ : ∃ x r, l = x :: r := by
    cases l with
    | nil => have := (lineB_iff hl).2.1; simp at this
    | cons x r => exact ⟨x, r, rfl⟩
  have ht : (trimS s).data.toList = hpL x ++ (r.map hpL).flatMap (59 :: ·) := by
    show Lib.trimSuffix s.data.toList [59] = _
    rw [← h, line_list, List.map_cons, ends_begins, trim_byte]
  have hs : splitS (trimS s) 59 = (x :: r).map (fun x => bt1 (hpL x)) := by
    apply lists_eq
    rw [splitS_list, ht, splitL_begins (ps := r.map hpL) (hp_no hl (List.mem_cons_self ..)) (by
      intro p hp y hy
      obtain ⟨z, hz, rfl⟩ := List.mem_map.1 hp
      exact hp_no hl (List.mem_cons_of_mem _ hz) y hy), List.map_map, List.map_cons]
    rfl
  have hm : ((x :: r).map (fun x => bt1 (hpL x))).map hpI = x :: r := by
    rw [List.map_map]
    have : ∀ y ∈ x :: r, (hpI ∘ fun x => bt1 (hpL x)) y = id y := fun y hy => (piece hl hy).1
    rw [List.map_congr_left this, List.map_id]
  have hok : ((x :: r).map (fun x => bt1 (hpL x))).all hokI = true := by
    rw [List.all_map, List.all_eq_true]
    exact fun y hy => (piece hl hy).2.1
  rw [phI, hs, hm, hok, hl, decide_eq_true h]
  rfl
/-- Both ways agree. -/
theorem ph_same (s : ByteArray) : phI s = phS s := by
  cases h : phI s with
  | some l => exact (back_S (phI_some h).1 (phI_some h).2).symm
  | none =>
    cases h2 : phS s with
    | none => rfl
    | some l => rw [back_I (phS_some h2).1 (phS_some h2).2] at h; cases h
end Go.Proofs.YtmoelgbbgepckaaDoor
