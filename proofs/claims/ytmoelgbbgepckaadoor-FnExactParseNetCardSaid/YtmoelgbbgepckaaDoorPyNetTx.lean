/- A net's text: the plain side. -/
import Derived.Test.YtmoelgbbgepckaaDoorPyA
import Derived.Test.YtmoelgbbgepckaaDoorNetM
import Derived.Lib.Join
namespace Go.Proofs.YtmoelgbbgepckaaDoor
open Go.RowKit
set_option linter.unusedVariables false

/-- An integer's text. -/
def itx (p : Int) : ByteArray := bt1 (Lib.itoa p)
theorem itx_nat (n : Nat) : itx n = txt n := by rw [itx, Lib.itoa_nonneg]; rfl
theorem itx_neg {n : Nat} (h : 1 ≤ n) : itx (-(n : Int)) = (⟨#[45]⟩ : ByteArray) ++ txt n := by
  apply bytes_eq
  rw [itx, bt1_list, Lib.itoa, if_pos (by omega), ByteArray.data_append, Array.toList_append, Int.natAbs_neg, Int.natAbs_natCast]
  rfl
theorem itx_int {p : Int} (h : 0 ≤ p) : itx p = txt p.toNat := by
  obtain ⟨n, rfl⟩ := Int.eq_ofNat_of_zero_le h
  exact itx_nat n
/-- One main's text, one hydrant's. -/
def nm1 (x : Int × Int) : ByteArray := (itx x.1 ++ ⟨#[47]⟩) ++ txt x.2.toNat
def nh1 (x : Int × Int) : ByteArray := (txt x.1.toNat ++ ⟨#[58]⟩) ++ txt x.2.toNat
def nmN (M : List (Int × Int)) : Nat → ByteArray
  | 0 => ⟨#[]⟩
  | j + 1 => match M[j]? with
    | some x => nmN M j ++ (((itx x.1 ++ ⟨#[47]⟩) ++ txt x.2.toNat) ++ ⟨#[32]⟩)
    | none => nmN M j
def nhN (b : ByteArray) (H : List (Int × Int)) : Nat → ByteArray
  | 0 => b
  | j + 1 => match H[j]? with
    | some x => nhN b H j ++ ((((⟨#[32]⟩ : ByteArray) ++ txt x.1.toNat) ++ ⟨#[58]⟩) ++ txt x.2.toNat)
    | none => nhN b H j
theorem nmN_succ {M : List (Int × Int)} {j : Nat} {x : Int × Int} (h : M[j]? = some x) : nmN M (j + 1) = nmN M j ++ (((itx x.1 ++ ⟨#[47]⟩) ++ txt x.2.toNat) ++ ⟨#[32]⟩) := by rw [nmN, h]
theorem nhN_succ {b : ByteArray} {H : List (Int × Int)} {j : Nat} {x : Int × Int} (h : H[j]? = some x) : nhN b H (j + 1) = nhN b H j ++ ((((⟨#[32]⟩ : ByteArray) ++ txt x.1.toNat) ++ ⟨#[58]⟩) ++ txt x.2.toNat) := by rw [nhN, h]
/-- A net's text. -/
def nxT (M H : List (Int × Int)) : ByteArray := nhN (nmN M M.length ++ ⟨#[124]⟩) H H.length

def nmL (x : Int × Int) : List UInt8 := Lib.itoa x.1 ++ 47 :: Lib.decDigits x.2.toNat
def nhL (x : Int × Int) : List UInt8 := Lib.decDigits x.1.toNat ++ 58 :: Lib.decDigits x.2.toNat
theorem nmN_list (M : List (Int × Int)) : ∀ j, j ≤ M.length → (nmN M j).data.toList = ((M.take j).map nmL).flatMap (· ++ [32])
  | 0, _ => by simp [nmN]
  | j + 1, h => by
    have hx : M[j]? = some M[j] := List.getElem?_eq_getElem (by omega)
    rw [nmN_succ hx, ByteArray.data_append, Array.toList_append, nmN_list M j (by omega), List.take_succ_eq_append_getElem (by omega), List.map_append, List.flatMap_append]
    simp [nmL, txt, itx, bt1, ByteArray.data_append]
theorem nhN_list (b : ByteArray) (H : List (Int × Int)) : ∀ j, j ≤ H.length → (nhN b H j).data.toList = b.data.toList ++ ((H.take j).map nhL).flatMap (32 :: ·)
  | 0, _ => by simp [nhN]
  | j + 1, h => by
    have hx : H[j]? = some H[j] := List.getElem?_eq_getElem (by omega)
    rw [nhN_succ hx, ByteArray.data_append, Array.toList_append, nhN_list b H j (by omega), List.take_succ_eq_append_getElem (by omega), List.map_append, List.flatMap_append]
    simp [nhL, txt, ByteArray.data_append]
theorem nxT_list (M H : List (Int × Int)) : (nxT M H).data.toList = (M.map nmL).flatMap (· ++ [32]) ++ 124 :: (H.map nhL).flatMap (32 :: ·) := by
  rw [nxT, nhN_list _ H _ (Nat.le_refl _), List.take_length, ByteArray.data_append, Array.toList_append, nmN_list M _ (Nat.le_refl _), List.take_length]
  simp
/-- The words that the program joins. -/
def nxW (M H : List (Int × Int)) : List ByteArray := (M.map nm1 ++ [⟨#[124]⟩]) ++ H.map nh1
theorem nm1_list (x : Int × Int) : (nm1 x).data.toList = nmL x := by simp [nm1, nmL, txt, itx, bt1, ByteArray.data_append]
theorem nh1_list (x : Int × Int) : (nh1 x).data.toList = nhL x := by simp [nh1, nhL, txt, ByteArray.data_append]
theorem join_ends (r : List (List UInt8)) : ∀ (ws : List (List UInt8)) (p : List UInt8), Lib.join (ws ++ p :: r) [32] = ws.flatMap (· ++ [32]) ++ (p ++ r.flatMap (32 :: ·))
  | [], p => by
    rw [List.nil_append, Lib.join_cons, Lib.joinTail, List.flatMap_nil, List.nil_append, List.flatMap_def]
    rfl
  | w :: ws, p => by
    have ih := join_ends r ws p
    have h2 : ∃ q t, ws ++ p :: r = q :: t := by
      cases ws with
      | nil => exact ⟨p, r, rfl⟩
      | cons a b => exact ⟨a, b ++ p :: r, rfl⟩
    obtain ⟨q, t, hq⟩ := h2
    rw [hq] at ih
    rw [List.cons_append, hq, Lib.join_cons, Lib.joinTail, List.map_cons, List.flatten_cons, List.flatMap_cons, List.append_assoc, List.append_assoc, ← ih, Lib.join_cons, Lib.joinTail]
    simp
theorem nx_join (M H : List (Int × Int)) : (⟨(Lib.join ((nxW M H).map (·.data.toList)) [32]).toArray⟩ : ByteArray) = nxT M H := by
  apply bytes_eq
  rw [nxT_list]
  show Lib.join ((nxW M H).map (·.data.toList)) [32] = _
  have e : (nxW M H).map (·.data.toList) = M.map nmL ++ [124] :: H.map nhL := by
    rw [nxW, List.map_append, List.map_append, List.map_map, List.map_map]
    have e1 : ((fun x : ByteArray => x.data.toList) ∘ nm1) = nmL := funext nm1_list
    have e2 : ((fun x : ByteArray => x.data.toList) ∘ nh1) = nhL := funext nh1_list
    rw [e1, e2]
    simp
  rw [e, join_ends]
  rfl
section
variable {M H : List (Int × Int)}
theorem itx_size {p : Int} (h0 : -1 ≤ p) (h1 : p < 10) : (itx p).size ≤ 2 := by
  by_cases h : 0 ≤ p
  · rw [itx_int h]
    have := txt_le 1 p.toNat (by omega) (by omega)
    omega
  · have : p = -((1 : Nat) : Int) := by omega
    rw [this, itx_neg (by omega), ByteArray.size_append]
    have := txt_le 1 1 (by omega) (by omega)
    have h2 : (⟨#[45]⟩ : ByteArray).size = 1 := rfl
    omega
theorem size_b (c : UInt8) : (⟨#[c]⟩ : ByteArray).size = 1 := rfl
theorem main_facts (hk : NetOk M H) {x : Int × Int} (h : x ∈ M) : -1 ≤ x.1 ∧ x.1 < 10 ∧ 0 ≤ x.2 ∧ x.2 ≤ 5000 := by
  obtain ⟨i, hi⟩ := List.mem_iff_getElem?.1 h
  obtain ⟨h1, h2, h3, h4⟩ := hk.main i x hi
  have hlt : i < M.length := (List.getElem?_eq_some_iff.1 hi).1
  have := hk.m10
  by_cases h0 : i = 0
  · have := h1 h0; omega
  · have := h2 (by omega); omega
theorem hyd_facts (hk : NetOk M H) {x : Int × Int} (h : x ∈ H) : 0 ≤ x.1 ∧ x.1 < 10 ∧ 1 ≤ x.2 ∧ x.2 ≤ 5000 := by
  obtain ⟨i, hi⟩ := List.mem_iff_getElem?.1 h
  obtain ⟨h1, h2, h3, h4⟩ := hk.hyd i x hi
  have := hk.m10
  omega
theorem nmN_size (hk : NetOk M H) : ∀ j, (nmN M j).size ≤ 8 * j
  | 0 => by simp [nmN, ByteArray.size]
  | j + 1 => by
    have ih := nmN_size hk j
    cases hx : M[j]? with
    | none => simp only [nmN, hx]; omega
    | some x =>
      have hf := main_facts hk (List.mem_of_getElem? hx)
      have h1 := itx_size hf.1 hf.2.1
      have h2 := txt_le 4 x.2.toNat (by omega) (by omega)
      rw [nmN_succ hx]
      simp only [ByteArray.size_append, size_b]
      omega
theorem nhN_size (hk : NetOk M H) (b : ByteArray) : ∀ j, (nhN b H j).size ≤ b.size + 7 * j
  | 0 => by simp [nhN]
  | j + 1 => by
    have ih := nhN_size hk b j
    cases hx : H[j]? with
    | none => simp only [nhN, hx]; omega
    | some x =>
      have hf := hyd_facts hk (List.mem_of_getElem? hx)
      have h1 := txt_le 1 x.1.toNat (by omega) (by omega)
      have h2 := txt_le 4 x.2.toNat (by omega) (by omega)
      rw [nhN_succ hx]
      simp only [ByteArray.size_append, size_b]
      omega
theorem nxT_size (hk : NetOk M H) : (nxT M H).size ≤ 300 := by
  have h1 := nmN_size hk M.length
  have h2 := nhN_size hk (nmN M M.length ++ ⟨#[124]⟩) H.length
  have := hk.m10
  have := hk.h10
  rw [ByteArray.size_append, size_b] at h2
  unfold nxT
  omega
end
end Go.Proofs.YtmoelgbbgepckaaDoor
