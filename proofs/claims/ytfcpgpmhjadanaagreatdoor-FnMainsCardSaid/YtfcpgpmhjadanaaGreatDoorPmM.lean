/- Several texts in one. A net's text: the plain side. A net's text: the reference's way. A net's text: the program's way. NetText: both sides. A net's text read: the plain side: both ways read back the text of every net, so they agree. The program reads numbers with a byte between them; the reference reads a pair. What the laws' markMainS leaves. What the laws' markHydrantS leaves. A slice of integers copied by the laws: where it lies, a letter. Nets and numbers marked by the laws. A net handed back, or none. The program reads a net. ParseNet: the program's side, as it is called. What the laws' markMainS and heldMainS do to a row of the call's own. What the laws' markHydrantS and heldHydrantS do to a row of the call's own. Nets of the call's own, marked by the laws. The reference reads a net. -/
import Derived.Test.YtfcpgpmhjadanaaGreatDoorPmA
import Derived.Test.YtfcpgpmhjadanaaGreatDoorNetM
import Derived.Test.YtfcpgpmhjadanaaGreatDoorNetC
import Derived.Test.YtfcpgpmhjadanaaGreatDoorNetB
import Derived.Test.YtfcpgpmhjadanaaGreatDoorRegX
import Derived.Test.YtfcpgpmhjadanaaGreatDoorRowsX
import Derived.Test.YtfcpgpmhjadanaaGreatDoorNetD
import Derived.Test.YtfcpgpmhjadanaaGreatDoorOwn
import Derived.Test.YtfcpgpmhjadanaaGreatDoorSmall
import Derived.Test.YtfcpgpmhjadanaaGreatDoorIntS
import Derived.Test.YtfcpgpmhjadanaaGreatDoorNetI
import Derived.Test.YtfcpgpmhjadanaaGreatDoorNetCl
import Derived.Lib.Join
import Derived.Deep.LoopGhost
import Derived.Deep.AppendLies
namespace Go.Proofs.YtfcpgpmhjadanaaGreatDoor
open Go.RowKit
set_option linter.unusedVariables false

/-- An integer's text. -/
def itx (p : Int) : ByteArray := bt1 (Lib.itoa p)
theorem itx_nat (n : Nat) : itx n = txt n := by rw [itx, Lib.itoa_nonneg]; rfl
theorem itx_neg {n : Nat} (h : 1 ≤ n) : itx (-(n : Int)) = (⟨#[45]⟩ : ByteArray) ++ txt n := by
  apply bytes_eq
  rw [itx, bt1_list, Lib.itoa, if_pos (by omega), ByteArray.data_append, Array.toList_append, Int.natAbs_neg, Int.natAbs_natCast]
  rfl
theorem itx_int {p : Int} (h : 0 ≤ p) : itx p = txt p.toNat := by
  obtain ⟨n, rfl⟩ := Int.eq_ofNat_of_zero_le h
  exact itx_nat n
/-- One main's text, one hydrant's. -/
def nm1 (x : Int × Int) : ByteArray := (itx x.1 ++ ⟨#[47]⟩) ++ txt x.2.toNat
def nh1 (x : Int × Int) : ByteArray := (txt x.1.toNat ++ ⟨#[58]⟩) ++ txt x.2.toNat
def nmN (M : List (Int × Int)) : Nat → ByteArray
  | 0 => ⟨#[]⟩
  | j + 1 => match M[j]? with
    | some x => nmN M j ++ (((itx x.1 ++ ⟨#[47]⟩) ++ txt x.2.toNat) ++ ⟨#[32]⟩)
    | none => nmN M j
def nhN (b : ByteArray) (H : List (Int × Int)) : Nat → ByteArray
  | 0 => b
  | j + 1 => match H[j]? with
    | some x => nhN b H j ++ ((((⟨#[32]⟩ : ByteArray) ++ txt x.1.toNat) ++ ⟨#[58]⟩) ++ txt x.2.toNat)
    | none => nhN b H j
theorem nmN_succ {M : List (Int × Int)} {j : Nat} {x : Int × Int} (h : M[j]? = some x) : nmN M (j + 1) = nmN M j ++ (((itx x.1 ++ ⟨#[47]⟩) ++ txt x.2.toNat) ++ ⟨#[32]⟩) := by rw [nmN, h]
theorem nhN_succ {b : ByteArray} {H : List (Int × Int)} {j : Nat} {x : Int × Int} (h : H[j]? = some x) : nhN b H (j + 1) = nhN b H j ++ ((((⟨#[32]⟩ : ByteArray) ++ txt x.1.toNat) ++ ⟨#[58]⟩) ++ txt x.2.toNat) := by rw [nhN, h]
/-- A net's text. -/
def nxT (M H : List (Int × Int)) : ByteArray := nhN (nmN M M.length ++ ⟨#[124]⟩) H H.length

def nmL (x : Int × Int) : List UInt8 := Lib.itoa x.1 ++ 47 :: Lib.decDigits x.2.toNat
def nhL (x : Int × Int) : List UInt8 := Lib.decDigits x.1.toNat ++ 58 :: Lib.decDigits x.2.toNat
theorem nmN_list (M : List (Int × Int)) : ∀ j, j ≤ M.length → (nmN M j).data.toList = ((M.take j).map nmL).flatMap (· ++ [32])
  | 0, _ => by simp [nmN]
  | j + 1, h => by
    have hx : M[j]? = some M[j] := List.getElem?_eq_getElem (by omega)
    rw [nmN_succ hx, ByteArray.data_append, Array.toList_append, nmN_list M j (by omega), List.take_succ_eq_append_getElem (by omega), List.map_append, List.flatMap_append]
    simp [nmL, txt, itx, bt1, ByteArray.data_append]
theorem nhN_list (b : ByteArray) (H : List (Int × Int)) : ∀ j, j ≤ H.length → (nhN b H j).data.toList = b.data.toList ++ ((H.take j).map nhL).flatMap (32 :: ·)
  | 0, _ => by simp [nhN]
  | j + 1, h => by
    have hx : H[j]? = some H[j] := List.getElem?_eq_getElem (by omega)
    rw [nhN_succ hx, ByteArray.data_append, Array.toList_append, nhN_list b H j (by omega), List.take_succ_eq_append_getElem (by omega), List.map_append, List.flatMap_append]
    simp [nhL, txt, ByteArray.data_append]
theorem nxT_list (M H : List (Int × Int)) : (nxT M H).data.toList = (M.map nmL).flatMap (· ++ [32]) ++ 124 :: (H.map nhL).flatMap (32 :: ·) := by
  rw [nxT, nhN_list _ H _ (Nat.le_refl _), List.take_length, ByteArray.data_append, Array.toList_append, nmN_list M _ (Nat.le_refl _), List.take_length]
  simp
/-- The words that the program joins. -/
def nxW (M H : List (Int × Int)) : List ByteArray := (M.map nm1 ++ [⟨#[124]⟩]) ++ H.map nh1
theorem nm1_list (x : Int × Int) : (nm1 x).data.toList = nmL x := by simp [nm1, nmL, txt, itx, bt1, ByteArray.data_append]
theorem nh1_list (x : Int × Int) : (nh1 x).data.toList = nhL x := by simp [nh1, nhL, txt, ByteArray.data_append]
theorem join_ends (r : List (List UInt8)) : ∀ (ws : List (List UInt8)) (p : List UInt8), Lib.join (ws ++ p :: r) [32] = ws.flatMap (· ++ [32]) ++ (p ++ r.flatMap (32 :: ·))
  | [], p => by
    rw [List.nil_append, Lib.join_cons, Lib.joinTail, List.flatMap_nil, List.nil_append, List.flatMap_def]
    rfl
  | w :: ws, p => by
    have ih := join_ends r ws p
    have h2 : ∃ q t, ws ++ p :: r = q :: t := by
      cases ws with
      | nil => exact ⟨p, r, rfl⟩
      | cons a b => exact ⟨a, b ++ p :: r, rfl⟩
    obtain ⟨q, t, hq⟩ := h2
    rw [hq] at ih
    rw [List.cons_append, hq, Lib.join_cons, Lib.joinTail, List.map_cons, List.flatten_cons, List.flatMap_cons, List.append_assoc, List.append_assoc, ← ih, Lib.join_cons, Lib.joinTail]
    simp
theorem nx_join (M H : List (Int × Int)) : (⟨(Lib.join ((nxW M H).map (·.data.toList)) [32]).toArray⟩ : ByteArray) = nxT M H := by
  apply bytes_eq
  rw [nxT_list]
  show Lib.join ((nxW M H).map (·.data.toList)) [32] = _
  have e : (nxW M H).map (·.data.toList) = M.map nmL ++ [124] :: H.map nhL := by
    rw [nxW, List.map_append, List.map_append, List.map_map, List.map_map]
    have e1 : ((fun x : ByteArray => x.data.toList) ∘ nm1) = nmL := funext nm1_list
    have e2 : ((fun x : ByteArray => x.data.toList) ∘ nh1) = nhL := funext nh1_list
    rw [e1, e2]
    simp
  rw [e, join_ends]
  rfl
section
variable {M H : List (Int × Int)}
theorem itx_size {p : Int} (h0 : -1 ≤ p) (h1 : p < 10) : (itx p).size ≤ 2 := by
  by_cases h : 0 ≤ p
  · rw [itx_int h]
    have := txt_le 1 p.toNat (by omega) (by omega)
    omega
  · have : p = -((1 : Nat) : Int) := by omega
    rw [this, itx_neg (by omega), ByteArray.size_append]
    have := txt_le 1 1 (by omega) (by omega)
    have h2 : (⟨#[45]⟩ : ByteArray).size = 1 := rfl
    omega
theorem size_b (c : UInt8) : (⟨#[c]⟩ : ByteArray).size = 1 := rfl
theorem main_facts (hk : NetOk M H) {x : Int × Int} (h : x ∈ M) : -1 ≤ x.1 ∧ x.1 < 10 ∧ 0 ≤ x.2 ∧ x.2 ≤ 5000 := by
  obtain ⟨i, hi⟩ := List.mem_iff_getElem?.1 h
  obtain ⟨h1, h2, h3, h4⟩ := hk.main i x hi
  have hlt : i < M.length := (List.getElem?_eq_some_iff.1 hi).1
  have := hk.m10
  by_cases h0 : i = 0
  · have := h1 h0; omega
  · have := h2 (by omega); omega
theorem hyd_facts (hk : NetOk M H) {x : Int × Int} (h : x ∈ H) : 0 ≤ x.1 ∧ x.1 < 10 ∧ 1 ≤ x.2 ∧ x.2 ≤ 5000 := by
  obtain ⟨i, hi⟩ := List.mem_iff_getElem?.1 h
  obtain ⟨h1, h2, h3, h4⟩ := hk.hyd i x hi
  have := hk.m10
  omega
theorem nmN_size (hk : NetOk M H) : ∀ j, (nmN M j).size ≤ 8 * j
  | 0 => by simp [nmN, ByteArray.size]
  | j + 1 => by
    have ih := nmN_size hk j
    cases hx : M[j]? with
    | none => simp only [nmN, hx]; omega
    | some x =>
      have hf := main_facts hk (List.mem_of_getElem? hx)
      have h1 := itx_size hf.1 hf.2.1
      have h2 := txt_le 4 x.2.toNat (by omega) (by omega)
      rw [nmN_succ hx]
      simp only [ByteArray.size_append, size_b]
      omega
theorem nhN_size (hk : NetOk M H) (b : ByteArray) : ∀ j, (nhN b H j).size ≤ b.size + 7 * j
  | 0 => by simp [nhN]
  | j + 1 => by
    have ih := nhN_size hk b j
    cases hx : H[j]? with
    | none => simp only [nhN, hx]; omega
    | some x =>
      have hf := hyd_facts hk (List.mem_of_getElem? hx)
      have h1 := txt_le 1 x.1.toNat (by omega) (by omega)
      have h2 := txt_le 4 x.2.toNat (by omega) (by omega)
      rw [nhN_succ hx]
      simp only [ByteArray.size_append, size_b]
      omega
theorem nxT_size (hk : NetOk M H) : (nxT M H).size ≤ 300 := by
  have h1 := nmN_size hk M.length
  have h2 := nhN_size hk (nmN M M.length ++ ⟨#[124]⟩) H.length
  have := hk.m10
  have := hk.h10
  rw [ByteArray.size_append, size_b] at h2
  unfold nxT
  omega
end
end Go.Proofs.YtfcpgpmhjadanaaGreatDoor
namespace Go.Proofs.YtfcpgpmhjadanaaGreatDoor
open Go.RowKit
set_option linter.unusedVariables false

set_option maxRecDepth 100000 in
set_option maxHeartbeats 2000000 in
theorem int_any (p : Int) (h0 : -1000000 < p) (h1 : p < 10000000) (w : World) :
    Calls Tryz.prog 66 #[.int .i64 p] w fun e w' => e = .returned (.string (itx p)) ∧ Below w.heap.size w w' := by
  by_cases h : 0 ≤ p
  · obtain ⟨n, rfl⟩ := Int.eq_ofNat_of_zero_le h
    have Q := hide (num_any n (by omega) w)
    have HI := hide (itx_nat n)
    have hn : ¬ (n : Int) < 0 := by omega
    go_enter Tryz.func66, Tryz.ntmps66
    go_wp2_with fail
    refine Q.out.mono ?_
    rintro e w1 ⟨rfl, hq⟩
    have HB := hide hq
    clear hq Q
    go_wp2
    go_ret
    exact ⟨by rw [HI.out]; rfl, HB.out⟩
  · obtain ⟨n, rfl⟩ : ∃ n : Nat, p = -(n : Int) := ⟨p.natAbs, by omega⟩
    have Q := hide (num_any n (by omega) w)
    have HI := hide (itx_neg (n := n) (by omega))
    have hn : (-(n : Int)) < 0 := by omega
    have hsz := txt_size n (by omega)
    have hwr : wrap64 (n : Int) = (n : Int) := by
      unfold wrap64
      omega
    clear h h0 h1
    go_enter Tryz.func66, Tryz.ntmps66
    go_wp2_with fail
    rw [hwr]
    clear hwr
    refine Q.out.mono ?_
    rintro e w1 ⟨rfl, hq⟩
    have HB := hide hq
    clear hq Q
    go_wp2
    go_ret
    exact ⟨by rw [HI.out]; rfl, HB.out⟩
theorem itx_small {p : Int} (h0 : -1 ≤ p) (h1 : p < 10) : (itx p).size ≤ 21 := Nat.le_trans (itx_size h0 h1) (by omega)

set_option maxRecDepth 100000 in
set_option maxHeartbeats 8000000 in
theorem hyText_any (n c m d : Nat) (A B : Option Addr) (M H : List (Int × Int)) (w : World) (hn : n = M.length) (hm : m = H.length) (hk : NetOk M H) (hr : NetRd w A B M H) :
    Calls Tryz.prog 42 #[.agg #[.slice A n c, .slice B m d]] w fun e w' => e = .returned (.string (nxT M H)) ∧ Below w.heap.size w w' := by
  have Hn := hide hn
  have Hm := hide hm
  have HK := hide hk
  have HR := hide (hr.1.alloc (.cells #[.slice A n c, .slice B m d] 27))
  have HS := hide (hr.2.alloc (.cells #[.slice A n c, .slice B m d] 27))
  have HB := hide (below_alloc (Below.refl w.heap.size w) (.cells #[.slice A n c, .slice B m d] 27))
  have HF := hide (Row.new w #[.slice A n c, .slice B m d] 27)
  have hn10 : n ≤ 10 := by have := hk.m10; omega
  have hm10 : m ≤ 10 := by have := hk.h10; omega
  clear hn hm hk hr
  go_enter Tryz.func42, Tryz.ntmps42
  go_wp2_with fail
  go_loopg [11, 3] n (fun g t s wr => ∃ (j : Nat) (b : ByteArray), t = .int .i64 (j : Int) ∧ s = .string b ∧ j ≤ n ∧ b.size ≤ 3000 ∧ Hid (n ≤ g + j) ∧ Hid (b = nmN M j) ∧ Hid (Below (w.alloc (.cells #[.slice A n c, .slice B m d] 27)).heap.size (w.alloc (.cells #[.slice A n c, .slice B m d] 27)) wr))
  case atStart => exact ⟨0, _, rfl, rfl, by omega, by simp [ByteArray.size], hide (by omega), hide rfl, hide (Below.refl _ _)⟩
  case round =>
    obtain ⟨j, b, rfl, rfl, hj, hbs, HG, HE, HW⟩ := hrel
    by_cases hlt : j < n
    · obtain ⟨⟨x0, x1⟩, hx⟩ : ∃ x, M[j]? = some x := ⟨_, List.getElem?_eq_getElem (by rw [← Hn.out]; exact hlt)⟩
      have hf := main_facts HK.out (List.mem_of_getElem? hx)
      dsimp only at hf
      obtain ⟨y1, rfl⟩ := Int.eq_ofNat_of_zero_le (show 0 ≤ x1 by omega)
      have HX := hide hx
      obtain ⟨bs, os, rfl, zs, t0, t1⟩ := (HR.out.below HW.out).get2 (fun _ => rfl) hx rfl
      dsimp only at t0 t1
      have v0 : -1000000 < x0 := by omega
      have v0' : x0 < 10000000 := by omega
      have v1 : y1 < 10000000 := by omega
      have s0 := itx_small hf.1 hf.2.1
      have s1 := txt_size y1 (by omega)
      have u4 : (0 : Int) ≤ (j : Int) := by omega
      have u5 : (j : Int) < (n : Int) := by omega
      clear hx hf
      go_wp2_with fail
      refine wp_region_later (by kernel_rfl) (by kernel_rfl) ?_
      repeat (go_big_quiet_step ((first | (go_at_call 67; with_reducible exact calls_later (num_any y1 v1 _)) | (go_at_call 66; with_reducible exact calls_later (int_any x0 v0 v0' _)))))
      refine wpQuiet_nil ?_
      refine later_intro fun w5 hb5 => ?_
      have HB5 := hide (below_step (below_alloc HW.out (.cells #[.int .i64 x0, .int .i64 (y1 : Int)] 36)) hb5)
      clear hb5 t0 t1 zs
      have HT := hide (show b ++ (((itx x0 ++ ⟨#[47]⟩) ++ txt y1) ++ ⟨#[32]⟩) = nmN M (j + 1) by rw [nmN_succ HX.out, HE.out]; rfl)
      have HZ := hide (show (nmN M (j + 1)).size ≤ 3000 from Nat.le_trans (nmN_size HK.out (j + 1)) (by omega))
      clear s0 s1 v0 v0' v1 hbs
      go_wp2
      go_roundg (gk - 1)
      case rel => exact ⟨j + 1, _, by go_num, rfl, by omega, by rw [HT.out]; exact HZ.out, hide (by have := HG.out; omega), hide HT.out, HB5⟩
      case measure => have := HG.out; omega
    · obtain rfl : j = n := by omega
      have HF1 := hide (HF.out.below HW.out)
      have HS1 := hide (HS.out.below HW.out)
      have HW1 := hide (below_step HB.out HW.out)
      have HBT := hide (show b ++ ⟨#[124]⟩ = nhN (nmN M M.length ++ ⟨#[124]⟩) H 0 by rw [HE.out, Hn.out]; rfl)
      have HZN := hide (fun k => nhN_size HK.out (nmN M M.length ++ ⟨#[124]⟩) k)
      have hz0 : (nmN M M.length ++ ⟨#[124]⟩ : ByteArray).size ≤ 90 := by
        have h1 := nmN_size HK.out M.length
        have h2 := HK.out.m10
        rw [ByteArray.size_append, size_b]
        omega
      have HZ0 := hide hz0
      have a1 := HF1.out.2.1 1 _ rfl
      have az := HF1.out.1
      clear hz0 HF HS HR HB
      have HPB := hide (show Below w.heap.size w wr from HW1.out)
      clear HW1 HW
      rename World => wr1
      go_wp2_with fail
      clear a1 az
      go_loopg [32, 3] m (fun g t s wr => ∃ (j : Nat) (b : ByteArray), t = .int .i64 (j : Int) ∧ s = .string b ∧ j ≤ m ∧ b.size ≤ 3000 ∧ Hid (m ≤ g + j) ∧ Hid (b = nhN (nmN M M.length ++ ⟨#[124]⟩) H j) ∧ Hid (Below wr1.heap.size wr1 wr))
      case atStart => exact ⟨0, _, rfl, rfl, by omega, by rw [HBT.out]; exact Nat.le_trans (HZN.out 0) (by have := HZ0.out; omega), hide (by omega), HBT, hide (Below.refl _ _)⟩
      case round =>
        obtain ⟨q, b, rfl, rfl, hq, hbs, HG, HE, HW⟩ := hrel
        by_cases hlt : q < m
        · obtain ⟨⟨x0, x1⟩, hx⟩ : ∃ x, H[q]? = some x := ⟨_, List.getElem?_eq_getElem (by rw [← Hm.out]; exact hlt)⟩
          have hf := hyd_facts HK.out (List.mem_of_getElem? hx)
          dsimp only at hf
          obtain ⟨y0, rfl⟩ := Int.eq_ofNat_of_zero_le (show 0 ≤ x0 by omega)
          obtain ⟨y1, rfl⟩ := Int.eq_ofNat_of_zero_le (show 0 ≤ x1 by omega)
          have HX := hide hx
          obtain ⟨bs, os, rfl, zs, t0, t1⟩ := (HS1.out.below HW.out).get2 (fun _ => rfl) hx rfl
          dsimp only at t0 t1
          have v0 : y0 < 10000000 := by omega
          have v1 : y1 < 10000000 := by omega
          have s0 := txt_size y0 (by omega)
          have s1 := txt_size y1 (by omega)
          have u4 : (0 : Int) ≤ (q : Int) := by omega
          have u5 : (q : Int) < (m : Int) := by omega
          clear hx hf
          go_wp2_with fail
          refine wp_region_later (by kernel_rfl) (by kernel_rfl) ?_
          repeat (go_big_quiet_step ((go_at_call 67; (first | with_reducible exact calls_later (num_any y0 v0 _) | with_reducible exact calls_later (num_any y1 v1 _)))))
          refine wpQuiet_nil ?_
          refine later_intro fun w5 hb5 => ?_
          have HB5 := hide (below_step (below_alloc HW.out (.cells #[.int .i64 (y0 : Int), .int .i64 (y1 : Int)] 73)) hb5)
          clear hb5 t0 t1 zs
          have HT := hide (show b ++ ((((⟨#[32]⟩ : ByteArray) ++ txt y0) ++ ⟨#[58]⟩) ++ txt y1) = nhN (nmN M M.length ++ ⟨#[124]⟩) H (q + 1) by rw [nhN_succ HX.out, HE.out]; rfl)
          have HZ := hide (show (nhN (nmN M M.length ++ ⟨#[124]⟩) H (q + 1)).size ≤ 3000 from Nat.le_trans (HZN.out (q + 1)) (by have := HZ0.out; omega))
          clear s0 s1 v0 v1 hbs
          go_wp2
          go_roundg (gk - 1)
          case rel => exact ⟨q + 1, _, by go_num, rfl, by omega, by rw [HT.out]; exact HZ.out, hide (by have := HG.out; omega), hide HT.out, HB5⟩
          case measure => have := HG.out; omega
        · obtain rfl : q = m := by omega
          have HJ := hide (show b = nxT M H by rw [HE.out, nxT, Hm.out])
          have HEND := hide (below_step HPB.out HW.out)
          go_wp2
          go_ret
          exact ⟨by rw [← HJ.out]; rfl, HEND.out⟩
end Go.Proofs.YtfcpgpmhjadanaaGreatDoor
namespace Go.Proofs.YtfcpgpmhjadanaaGreatDoor
open Go.RowKit
set_option linter.unusedVariables false

theorem itoaI_any (p : Int) (h0 : -1000000 < p) (h1 : p < 10000000) (w : World) (ht : Tab w) :
    Calls Tryz.prog 64 #[.int .i64 p] w fun e w' => e = .returned (.string (itx p)) ∧ Below w.heap.size w w' :=
  (Tryz.strconv_Itoa p (by omega) (by omega) w ht).mono fun e w' ⟨he, k, os, hw⟩ => ⟨by rw [he]; rfl, by rw [hw]; exact below_grow w k os⟩
theorem map_take_succ {α β : Type} (f : α → β) {l : List α} {k : Nat} {a : α} (h : l[k]? = some a) : (l.take (k + 1)).map f = (l.take k).map f ++ [f a] := by
  rw [List.take_add_one, h, List.map_append]; rfl
theorem nx_len {M H : List (Int × Int)} (hk : NetOk M H) : (Lib.join ((nxW M H).map (·.data.toList)) [32]).length ≤ 140737488355328 := by
  have h1 := nxT_size hk
  rw [← nx_join] at h1
  have h2 : (⟨(Lib.join ((nxW M H).map (·.data.toList)) [32]).toArray⟩ : ByteArray).size = (Lib.join ((nxW M H).map (·.data.toList)) [32]).length := rfl
  omega

set_option maxRecDepth 100000 in
set_option maxHeartbeats 8000000 in
theorem netText_any (b0 n c m d : Nat) (A B : Option Addr) (M H : List (Int × Int)) (w : World) (hn : n = M.length) (hm : m = H.length) (hk : NetOk M H) (hr : NetRd w A B M H) (hc0 : w.cell? ⟨b0, 0, none⟩ = some (.slice A n c)) (hc1 : w.cell? ⟨b0, 1, none⟩ = some (.slice B m d)) (ht : Tab w) :
    Calls Tryz.prog 40 #[.pointer (some ⟨b0, 0, none⟩)] w fun e w' => e = .returned (.string (nxT M H)) ∧ Below w.heap.size w w' := by
  obtain ⟨i0, hi0, hz0, hz1, hz2⟩ := info_parts infoStrV
  have Hi := hide hi0
  have Hz := hide (And.intro hz0 (And.intro hz1 hz2))
  clear hi0 hz0 hz1 hz2
  have Hn := hide hn
  have Hm := hide hm
  have HK := hide hk
  have HR := hide hr.1
  have HS := hide hr.2
  have HT := hide ht
  have HC1 := hide hc1
  have hz := World.block_lt_of_cell? w _ hc0
  dsimp only at hz
  have hn10 : n ≤ 10 := by have := hk.m10; omega
  have hm10 : m ≤ 10 := by have := hk.h10; omega
  clear hn hm hk hr ht hc1
  go_enter Tryz.func40, Tryz.ntmps40
  go_wp2_with fail
  clear hc0
  go_loopg [13, 3] n (fun g t s wr => ∃ (j : Nat) (A2 : Option Addr) (cp : Nat), t = .int .i64 (j : Int) ∧ s = .slice A2 j cp ∧ j ≤ n ∧ Hid (n ≤ g + j) ∧ Hid (wr.ownsRow w.heap.size 9 1 (.slice A2 j cp) j (strV ((M.take j).map nm1))) ∧ Hid (Below w.heap.size w wr))
  case atStart => exact ⟨0, none, 0, rfl, rfl, by omega, hide (by omega), hide (World.ownsRow_nil _ _ _ _), hide (Below.refl _ _)⟩
  case round =>
    obtain ⟨j, A2, cp, rfl, rfl, hj, HG, HO, HW⟩ := hrel
    by_cases hlt : j < n
    · obtain ⟨⟨x0, x1⟩, hx⟩ : ∃ x, M[j]? = some x := ⟨_, List.getElem?_eq_getElem (by rw [← Hn.out]; exact hlt)⟩
      have hf := main_facts HK.out (List.mem_of_getElem? hx)
      dsimp only at hf
      obtain ⟨y1, rfl⟩ := Int.eq_ofNat_of_zero_le (show 0 ≤ x1 by omega)
      have HMT := hide (map_take_succ nm1 hx)
      obtain ⟨bs, os, rfl, zs, t0, t1⟩ := (HR.out.below HW.out).get2 (fun _ => rfl) hx rfl
      dsimp only at t0 t1
      have v0 : -1000000 < x0 := by omega
      have v0' : x0 < 10000000 := by omega
      have v1 : y1 ≤ 9223372036854775807 := by omega
      have s0 := itx_small hf.1 hf.2.1
      have s1 := txt_size y1 (by omega)
      have u4 : (0 : Int) ≤ (j : Int) := by omega
      have u5 : (j : Int) < (n : Int) := by omega
      clear hx hf
      go_wp2_with fail
      have HOA := hide (World.ownsRow.alloc HO.out (.cells #[.int .i64 x0, .int .i64 (y1 : Int)] 36))
      have HWA := hide (below_alloc HW.out (.cells #[.int .i64 x0, .int .i64 (y1 : Int)] 36))
      have HFA := hide (Row.new wr #[.int .i64 x0, .int .i64 (y1 : Int)] 36)
      clear HO HW t0 t1 zs
      generalize wr.alloc (.cells #[.int .i64 x0, .int .i64 (y1 : Int)] 36) = V at *
      generalize wr.heap.size = tb at *
      have t0 := HFA.out.2.1 0 _ rfl
      have t1 := HFA.out.2.1 1 _ rfl
      have zt := HFA.out.1
      refine wpAnyX_start (fun w' => ∃ n : Later V, w' = n.w) [10] (n := 12) (by kernel_rfl) rfl rfl ?_
      refine wpAnyX_take [0, 1, 2, 5, 6] 7 rfl (by kernel_rfl) (by intro c a d v w h; cases d <;> exact h) (by kernel_rfl) (by kernel_rfl) (by kernel_rfl) (by simp; rfl) rfl (later_drew _) ?_
      repeat (go_big_quiet_step (fail))
      refine wpQuiet_nil ?_
      clear t0 t1 zt
      have HX : Hid (Below V.heap.size V V.drew) := hide (Below.refl _ _).drew
      generalize V.drew = V0 at *
      refine wpAnyX_only 3 (by kernel_rfl) (by simp; rfl) rfl rfl (fun K hK => ?_)
      go_wp2_with fail
      refine (itoaI_any x0 v0 v0' _ (tab_below HT.out (below_step HWA.out HX.out))).mono ?_
      rintro e V1 ⟨rfl, hb⟩
      replace HX := hide (below_step HX.out hb)
      clear hb
      go_wp2_with fail
      refine ⟨later_of HX.out, ?_⟩
      refine wpAnyX_take [4] 5 rfl (by kernel_rfl) (by intro c a d v w h; cases d <;> exact h) (by kernel_rfl) (by kernel_rfl) (by kernel_rfl) (by simp; rfl) rfl (later_of HX.out) ?_
      repeat (go_big_quiet_step (fail))
      refine wpQuiet_nil ?_
      refine wpAnyX_only 7 (by kernel_rfl) (by simp; rfl) rfl rfl (fun K hK => ?_)
      go_wp2_with fail
      refine (itoa_any y1 v1 _ (tab_below HT.out (below_step HWA.out HX.out))).mono ?_
      rintro e V2 ⟨rfl, hb⟩
      replace HX := hide (below_step HX.out hb)
      clear hb
      go_wp2_with fail
      refine ⟨later_of HX.out, ?_⟩
      refine wpAnyX_take [8] 3 rfl (by kernel_rfl) (by intro c a d v w h; cases d <;> exact h) (by kernel_rfl) (by kernel_rfl) (by kernel_rfl) (by simp; rfl) rfl (later_of HX.out) ?_
      repeat (go_big_quiet_step (fail))
      refine wpQuiet_nil ?_
      have HSV := hide (show nm1 (x0, (y1 : Int)) = (itx x0 ++ ⟨#[47]⟩) ++ txt y1 from rfl)
      generalize (itx x0 ++ ⟨#[47]⟩) ++ txt y1 = tx at *
      clear s0 s1
      refine wpAnyX_only 9 (by kernel_rfl) (by simp; rfl) rfl rfl (fun K hK => ?_)
      go_wp2_with fail
      have HSB := hide (Row.new V2 #[.string tx] 9)
      replace HX := hide (below_alloc HX.out (.cells #[.string tx] 9))
      refine ⟨later_of HX.out, ?_⟩
      generalize V2.alloc (.cells #[.string tx] 9) = V5 at *
      generalize V2.heap.size = sb at *
      have HO5 := hide (own_below HOA.out HX.out)
      have HW5 := hide (below_step HWA.out HX.out)
      clear HOA HWA HX HFA
      refine wpAnyX_last 10 (by kernel_rfl) (by simp; rfl) rfl rfl (by kernel_rfl) (fun K hK => ?_)
      have hml : maxLen = 9223372036854775807 := rfl
      refine wp_append_lies _ (.tmp 17) (.tmp 26) 68 rfl w.heap.size 9 i0 (.string ByteArray.empty) 1 16 Tryz.underlying68 Hi.out Hz.out.1 Hz.out.2.1 Hz.out.2.2 rfl (by decide) (.slice A2 j cp) j (strV ((M.take j).map nm1)) rfl HO5.out ⟨sb, 0, none⟩ 1 1 [.string tx] rfl rfl (fun q u hu => by rw [Addr.add_lit, Nat.zero_add]; exact HSB.out.2.1 q u hu) (fun u hu => by simp at hu; rw [hu]; rfl) (by omega) (by omega) (by omega) HW5.out.size V5.heap.size rfl (fun g' cap' w6 hown hgrow _ hlt' => ?_)
      have HO6 : Hid (w6.ownsRow w.heap.size 9 1 (.slice (some ⟨g', 0, none⟩) (j + 1) cap') (j + 1) (strV ((M.take (j + 1)).map nm1))) := hide (by rw [HMT.out, HSV.out, strV_append]; exact hown)
      have HB6 := hide (HW5.out.grown hgrow HW5.out.size (fun q hq => (HO5.out.lt q hq).1))
      clear hml HSB hown hgrow hlt' HO5 HW5
      refine hK _ _ ?_
      simp only [Act.put, List.setIfInBounds_toArray, List.set_cons_succ, List.set_cons_zero]
      refine wpAnyX_last 11 (by kernel_rfl) (by simp; rfl) rfl rfl (by kernel_rfl) (fun K hK => ?_)
      go_wp2_with fail
      refine wpAnyX_done (by kernel_rfl) ?_ _
      go_wp2
      go_roundg (gk - 1)
      case rel => exact ⟨j + 1, _, cap', by go_num, rfl, by omega, hide (by have := HG.out; omega), HO6, HB6⟩
      case measure => have := HG.out; omega
    · obtain rfl : j = n := by omega
      have HTK := hide (show (M.take j).map nm1 = M.map nm1 by rw [List.take_of_length_le (by have := Hn.out; omega)])
      rw [HTK.out] at HO
      have a1 := cell_on HC1.out HW.out
      have az : b0 < wr.heap.size := Nat.lt_of_lt_of_le hz HW.out.size
      have HS1 := hide (HS.out.below HW.out)
      have HOA := hide (World.ownsRow.alloc HO.out (.cells #[.string ⟨#[124]⟩] 9))
      have HBA := hide (Row.new wr #[.string ⟨#[124]⟩] 9)
      have HSA := hide (HS1.out.alloc (.cells #[.string ⟨#[124]⟩] 9))
      have HBW := hide (below_alloc HW.out (.cells #[.string ⟨#[124]⟩] 9))
      have a1' := cell_on a1 (below_alloc (Below.refl wr.heap.size wr) (.cells #[.string ⟨#[124]⟩] 9))
      clear HTK a1
      have HA1 := hide a1'
      clear a1'
      have HBZ := hide HBW.out.size
      go_wp2_with (at_builtin; refine wpList_append_any rfl (.tmp 29) (.tmp 30) 68 rfl w.heap.size 9 i0 (.string ByteArray.empty) 1 16 Tryz.underlying68 Hi.out Hz.out.1 Hz.out.2.1 Hz.out.2.2 rfl (by decide) (.slice A2 j cp) j (strV (M.map nm1)) rfl HOA.out (some ⟨wr.heap.size, 0, none⟩) 1 1 [.string ⟨#[124]⟩] rfl rfl (fun e => by cases e) (fun ad e j u hu => by cases e; rw [Addr.add_lit, Nat.zero_add]; exact HBA.out.2.1 j u hu) (fun u hu => by simp at hu; rw [hu]; rfl) (by unfold maxLen; omega) (by omega) HBZ.out ?_)
      intro v6 w6 hown hgrow
      have HNB := hide (fun q hq => (HOA.out.lt q hq).1)
      have HO6 : Hid (w6.ownsRow w.heap.size 9 1 v6 (j + 1) (strV (M.map nm1 ++ [⟨#[124]⟩]))) := hide (by rw [strV_append]; exact hown)
      have HB6 := hide (HBW.out.grown hgrow HBW.out.size (fun q hq => HNB.out q hq))
      have HS6 := hide (HS.out.below HB6.out)
      have a1 := cell_on HC1.out HB6.out
      have az6 : b0 < w6.heap.size := Nat.lt_of_lt_of_le hz HB6.out.size
      clear hown hgrow HOA HBA HSA HBW HA1 az HO HW HS1 HR HNB
      obtain ⟨A6, c6, rfl, -⟩ := own_open HO6.out
      go_wp2_with fail
      clear a1 az6
      generalize hWD : M.map nm1 ++ [⟨#[124]⟩] = WD at *
      have HWD := hide hWD
      clear hWD
      rename World => wo
      go_loopg [37, 3] m (fun g t s wr => ∃ (q : Nat) (A2 : Option Addr) (cp : Nat), t = .int .i64 (q : Int) ∧ s = .slice A2 (j + 1 + q) cp ∧ q ≤ m ∧ Hid (m ≤ g + q) ∧ Hid (wr.ownsRow w.heap.size 9 1 (.slice A2 (j + 1 + q) cp) (j + 1 + q) (strV (WD ++ (H.take q).map nh1))) ∧ Hid (Below w.heap.size w wr))
      case atStart => exact ⟨0, A6, c6, rfl, rfl, by omega, hide (by omega), hide (by simpa using HO6.out), HB6⟩
      case round =>
        obtain ⟨q, A2, cp, rfl, rfl, hq, HG, HO, HW⟩ := hrel
        by_cases hlt : q < m
        · obtain ⟨⟨x0, x1⟩, hx⟩ : ∃ x, H[q]? = some x := ⟨_, List.getElem?_eq_getElem (by rw [← Hm.out]; exact hlt)⟩
          have hf := hyd_facts HK.out (List.mem_of_getElem? hx)
          dsimp only at hf
          obtain ⟨y0, rfl⟩ := Int.eq_ofNat_of_zero_le (show 0 ≤ x0 by omega)
          obtain ⟨y1, rfl⟩ := Int.eq_ofNat_of_zero_le (show 0 ≤ x1 by omega)
          have HMT := hide (map_take_succ nh1 hx)
          obtain ⟨bs, os, rfl, zs, t0, t1⟩ := (HS.out.below HW.out).get2 (fun _ => rfl) hx rfl
          dsimp only at t0 t1
          have v0 : y0 ≤ 9223372036854775807 := by omega
          have v1 : y1 ≤ 9223372036854775807 := by omega
          have s0 := txt_size y0 (by omega)
          have s1 := txt_size y1 (by omega)
          have u4 : (0 : Int) ≤ (q : Int) := by omega
          have u5 : (q : Int) < (m : Int) := by omega
          clear hx hf
          go_wp2_with fail
          have HOA := hide (World.ownsRow.alloc HO.out (.cells #[.int .i64 (y0 : Int), .int .i64 (y1 : Int)] 73))
          have HWA := hide (below_alloc HW.out (.cells #[.int .i64 (y0 : Int), .int .i64 (y1 : Int)] 73))
          have HFA := hide (Row.new wr #[.int .i64 (y0 : Int), .int .i64 (y1 : Int)] 73)
          clear HO HW t0 t1 zs
          generalize wr.alloc (.cells #[.int .i64 (y0 : Int), .int .i64 (y1 : Int)] 73) = V at *
          generalize wr.heap.size = tb at *
          have t0 := HFA.out.2.1 0 _ rfl
          have t1 := HFA.out.2.1 1 _ rfl
          have zt := HFA.out.1
          refine wpAnyX_start (fun w' => ∃ n : Later V, w' = n.w) [10] (n := 12) (by kernel_rfl) rfl rfl ?_
          refine wpAnyX_take [0, 1, 2, 5, 6] 7 rfl (by kernel_rfl) (by intro c a d v w h; cases d <;> exact h) (by kernel_rfl) (by kernel_rfl) (by kernel_rfl) (by simp; rfl) rfl (later_drew _) ?_
          repeat (go_big_quiet_step (fail))
          refine wpQuiet_nil ?_
          clear t0 t1 zt
          have HX : Hid (Below V.heap.size V V.drew) := hide (Below.refl _ _).drew
          generalize V.drew = V0 at *
          refine wpAnyX_only 3 (by kernel_rfl) (by simp; rfl) rfl rfl (fun K hK => ?_)
          go_wp2_with fail
          refine (itoa_any y0 v0 _ (tab_below HT.out (below_step HWA.out HX.out))).mono ?_
          rintro e V1 ⟨rfl, hb⟩
          replace HX := hide (below_step HX.out hb)
          clear hb
          go_wp2_with fail
          refine ⟨later_of HX.out, ?_⟩
          refine wpAnyX_take [4] 5 rfl (by kernel_rfl) (by intro c a d v w h; cases d <;> exact h) (by kernel_rfl) (by kernel_rfl) (by kernel_rfl) (by simp; rfl) rfl (later_of HX.out) ?_
          repeat (go_big_quiet_step (fail))
          refine wpQuiet_nil ?_
          refine wpAnyX_only 7 (by kernel_rfl) (by simp; rfl) rfl rfl (fun K hK => ?_)
          go_wp2_with fail
          refine (itoa_any y1 v1 _ (tab_below HT.out (below_step HWA.out HX.out))).mono ?_
          rintro e V2 ⟨rfl, hb⟩
          replace HX := hide (below_step HX.out hb)
          clear hb
          go_wp2_with fail
          refine ⟨later_of HX.out, ?_⟩
          refine wpAnyX_take [8] 3 rfl (by kernel_rfl) (by intro c a d v w h; cases d <;> exact h) (by kernel_rfl) (by kernel_rfl) (by kernel_rfl) (by simp; rfl) rfl (later_of HX.out) ?_
          repeat (go_big_quiet_step (fail))
          refine wpQuiet_nil ?_
          have HSV := hide (show nh1 ((y0 : Int), (y1 : Int)) = (txt y0 ++ ⟨#[58]⟩) ++ txt y1 from rfl)
          generalize (txt y0 ++ ⟨#[58]⟩) ++ txt y1 = tx at *
          clear s0 s1
          refine wpAnyX_only 9 (by kernel_rfl) (by simp; rfl) rfl rfl (fun K hK => ?_)
          go_wp2_with fail
          have HSB := hide (Row.new V2 #[.string tx] 9)
          replace HX := hide (below_alloc HX.out (.cells #[.string tx] 9))
          refine ⟨later_of HX.out, ?_⟩
          generalize V2.alloc (.cells #[.string tx] 9) = V5 at *
          generalize V2.heap.size = sb at *
          have HO5 := hide (own_below HOA.out HX.out)
          have HW5 := hide (below_step HWA.out HX.out)
          clear HOA HWA HX HFA
          refine wpAnyX_last 10 (by kernel_rfl) (by simp; rfl) rfl rfl (by kernel_rfl) (fun K hK => ?_)
          have hml : maxLen = 9223372036854775807 := rfl
          refine wp_append_lies _ (.tmp 41) (.tmp 50) 68 rfl w.heap.size 9 i0 (.string ByteArray.empty) 1 16 Tryz.underlying68 Hi.out Hz.out.1 Hz.out.2.1 Hz.out.2.2 rfl (by decide) (.slice A2 (j + 1 + q) cp) (j + 1 + q) (strV (WD ++ (H.take q).map nh1)) rfl HO5.out ⟨sb, 0, none⟩ 1 1 [.string tx] rfl rfl (fun k u hu => by rw [Addr.add_lit, Nat.zero_add]; exact HSB.out.2.1 k u hu) (fun u hu => by simp at hu; rw [hu]; rfl) (by omega) (by omega) (by omega) HW5.out.size V5.heap.size rfl (fun g' cap' w6 hown hgrow _ hlt' => ?_)
          have HO6' : Hid (w6.ownsRow w.heap.size 9 1 (.slice (some ⟨g', 0, none⟩) (j + 1 + (q + 1)) cap') (j + 1 + (q + 1)) (strV (WD ++ (H.take (q + 1)).map nh1))) := hide (by rw [HMT.out, HSV.out, ← List.append_assoc, strV_append]; exact hown)
          have HB6' := hide (HW5.out.grown hgrow HW5.out.size (fun q hq => (HO5.out.lt q hq).1))
          clear hml HSB hown hgrow hlt' HO5 HW5
          refine hK _ _ ?_
          simp only [Act.put, List.setIfInBounds_toArray, List.set_cons_succ, List.set_cons_zero]
          refine wpAnyX_last 11 (by kernel_rfl) (by simp; rfl) rfl rfl (by kernel_rfl) (fun K hK => ?_)
          go_wp2_with fail
          refine wpAnyX_done (by kernel_rfl) ?_ _
          go_wp2
          go_roundg (gk - 1)
          case rel => exact ⟨q + 1, _, cap', by go_num, rfl, by omega, hide (by have := HG.out; omega), HO6', HB6'⟩
          case measure => have := HG.out; omega
        · obtain rfl : q = m := by omega
          have HTK := hide (show WD ++ (H.take q).map nh1 = nxW M H by rw [← HWD.out, List.take_of_length_le (by have := Hm.out; omega)]; rfl)
          rw [HTK.out] at HO
          obtain ⟨gj, cj, hv, hg1, hg2, hg3, hg4⟩ := own_some HO.out (by omega)
          injection hv with hv1 hv2 hv3
          subst hv1 hv3
          have HLW := hide (show j + 1 + q = (nxW M H).length by rw [nxW, List.length_append, List.length_append, List.length_map, List.length_map, List.length_singleton, ← Hn.out, ← Hm.out])
          have hrd := own_rd HO.out
          have QJ := hide (Tryz.strings_Join gj 0 cp (nxW M H) ⟨#[32]⟩ wr (fun k x hk => by
            rcases hrd with h | ⟨b', off', e, hc⟩
            · have h0 := strV_at hk
              rw [h] at h0
              cases h0
            · injection e with e
              injection e with e1 e2
              subst e1 e2
              exact hc k _ (strV_at hk)) hg2 (by rw [← HLW.out]; omega) (by rw [← HLW.out]; exact hg3) (nx_len HK.out))
          have HNX := hide (nx_join M H)
          rw [← HLW.out] at QJ
          rw [show (⟨#[32]⟩ : ByteArray).data.toList = [32] from rfl, HNX.out] at QJ
          clear hrd
          go_wp2_with fail
          refine QJ.out.mono ?_
          rintro e w7 ⟨rfl, hq7⟩
          have HEND := hide (below_step HW.out hq7)
          clear hq7 QJ
          go_wp2
          go_ret
          exact ⟨rfl, HEND.out⟩
end Go.Proofs.YtfcpgpmhjadanaaGreatDoor
namespace Go.Proofs.YtfcpgpmhjadanaaGreatDoor
open Go.RowKit
set_option linter.unusedVariables false

def txN (M H : List (Int × Int)) : ByteArray := if netB M H then nxT M H else ByteArray.empty
theorem txN_no {M H : List (Int × Int)} (h : netB M H = false) : txN M H = ⟨#[]⟩ := by rw [txN, h]; rfl
theorem txN_yes {M H : List (Int × Int)} (h : netB M H = true) : txN M H = nxT M H := by rw [txN, if_pos h]
theorem ret_txt {s t : ByteArray} {a b : Bool} (h : s = t) (h2 : a = b) : Ending.returned (.tuple #[.string s, .bool a]) = .returned (.tuple #[.string t, .bool b]) := by rw [h, h2]

set_option maxHeartbeats 2000000 in
theorem specNetText_any (A B : Option Addr) (n c m d : Nat) (M H : List (Int × Int)) (w : World) (hn : n = M.length) (hm : m = H.length) (hnm : n ≤ maxLen) (hmm : m ≤ maxLen) (hr : NetRd w A B M H) :
    Calls Tryz.prog 17 #[.agg #[.slice A n c, .slice B m d]] w fun e w' => e = .returned (.tuple #[.string (txN M H), .bool (netB M H)]) ∧ Below w.heap.size w w' := by
  have Q := hide (hyGood_any A B n c m d M H (w.alloc (.cells #[.slice A n c, .slice B m d] 27)) hn hm hnm hmm (hr.alloc _))
  have Hn := hide hn
  have Hm := hide hm
  have Hr := hide hr
  clear hn hm hnm hmm hr
  cases ht : netB M H with
  | false =>
    rw [ht] at Q
    have HG := hide (txN_no ht)
    clear ht
    go_enter Tryz.func17, Tryz.ntmps17
    go_wp2_with fail
    refine Q.out.mono ?_
    rintro e w1 ⟨rfl, hq⟩
    go_wp2
    go_ret2
    exact ⟨ret_txt HG.out.symm rfl, below_step (below_alloc (Below.refl _ _) _) hq⟩
  | true =>
    rw [ht] at Q
    have HG := hide (txN_yes ht)
    have HK := hide (netB_ok ht)
    clear ht
    go_enter Tryz.func17, Tryz.ntmps17
    go_wp2_with fail
    refine Q.out.mono ?_
    rintro e w1 ⟨rfl, hq⟩
    obtain ⟨a0, a1⟩ := cell_new2 w (.slice A n c) (.slice B m d) 27
    have a0 := cell_on a0 hq
    have a1 := cell_on a1 hq
    have HW1 : Hid (Below w.heap.size w w1) := hide (below_step (below_alloc (Below.refl _ _) _) hq)
    have z0 := World.block_lt_of_cell? w1 _ a0
    dsimp only at z0
    clear hq Q
    go_wp2_with fail
    refine (hyText_any n c m d A B M H _ Hn.out Hm.out HK.out (Hr.out.below HW1.out)).mono ?_
    rintro e w2 ⟨rfl, hq⟩
    have HW2 := hide (below_step HW1.out hq)
    clear hq a0 a1 z0
    go_wp2
    go_ret2
    exact ⟨ret_txt HG.out.symm rfl, HW2.out⟩

set_option maxHeartbeats 2000000 in
theorem implNetText_any (A B : Option Addr) (n c m d : Nat) (M H : List (Int × Int)) (w : World) (hn : n = M.length) (hm : m = H.length) (hnm : n ≤ maxLen) (hmm : m ≤ maxLen) (ht : Tab w) (hr : NetRd w A B M H) :
    Calls Tryz.prog 16 #[.agg #[.slice A n c, .slice B m d]] w fun e w' => e = .returned (.tuple #[.string (txN M H), .bool (netB M H)]) ∧ Below w.heap.size w w' := by
  have Q := hide (implisNet_any w.heap.size A B n c m d M H (w.alloc (.cells #[.slice A n c, .slice B m d] 27)) hn hm hnm hmm (hr.alloc _) ((Row.new _ _ _).2.1 0 _ rfl) ((Row.new _ _ _).2.1 1 _ rfl))
  have Hn := hide hn
  have Hm := hide hm
  have Hr := hide hr
  have HT := hide ht
  clear hn hm hnm hmm hr ht
  cases ht : netB M H with
  | false =>
    rw [ht] at Q
    have HG := hide (txN_no ht)
    clear ht
    go_enter Tryz.func16, Tryz.ntmps16
    go_wp2_with fail
    refine Q.out.mono ?_
    rintro e w1 ⟨rfl, hq⟩
    go_wp2
    go_ret2
    exact ⟨ret_txt HG.out.symm rfl, below_step (below_alloc (Below.refl _ _) _) hq⟩
  | true =>
    rw [ht] at Q
    have HG := hide (txN_yes ht)
    have HK := hide (netB_ok ht)
    clear ht
    go_enter Tryz.func16, Tryz.ntmps16
    go_wp2_with fail
    refine Q.out.mono ?_
    rintro e w1 ⟨rfl, hq⟩
    obtain ⟨a0, a1⟩ := cell_new2 w (.slice A n c) (.slice B m d) 27
    have A0 := hide (cell_on a0 hq)
    have A1 := hide (cell_on a1 hq)
    have HW1 : Hid (Below w.heap.size w w1) := hide (below_step (below_alloc (Below.refl _ _) _) hq)
    have z0 := World.block_lt_of_cell? w1 _ A0.out
    dsimp only at z0
    clear hq Q a0 a1
    go_wp2_with fail
    refine (netText_any w.heap.size n c m d A B M H _ Hn.out Hm.out HK.out (Hr.out.below HW1.out) A0.out A1.out (tab_below HT.out HW1.out)).mono ?_
    rintro e w2 ⟨rfl, hq⟩
    have HW2 := hide (below_step HW1.out hq)
    clear hq z0
    go_wp2
    go_ret2
    exact ⟨ret_txt HG.out.symm rfl, HW2.out⟩
end Go.Proofs.YtfcpgpmhjadanaaGreatDoor
namespace Go.Proofs.YtfcpgpmhjadanaaGreatDoor
open Go.RowKit
set_option linter.unusedVariables false

/-- What the program reads of a word. -/
def wvI (b : UInt8) (v : ByteArray) : Int × Int := (rnV ((splitS v b).getD 0 ByteArray.empty), rnV ((splitS v b).getD 1 ByteArray.empty))
def wokI (b : UInt8) (v : ByteArray) : Bool := (splitS v b).all rnOk && decide ((splitS v b).length = 2)
/-- What the reference reads of a word. -/
def pairS (b : UInt8) (v : ByteArray) : Int × Int := if (splitS v b).length = 2 then (readS ((splitS v b).getD 0 ByteArray.empty), readS ((splitS v b).getD 1 ByteArray.empty)) else (-1, -1)
def pnI (s : ByteArray) : Option (List (Int × Int) × List (Int × Int)) :=
  if (wordsF (cutA s 124)).all (wokI 47) && (wordsF (cutB s 124)).all (wokI 58) && netB ((wordsF (cutA s 124)).map (wvI 47)) ((wordsF (cutB s 124)).map (wvI 58)) && decide (nxT ((wordsF (cutA s 124)).map (wvI 47)) ((wordsF (cutB s 124)).map (wvI 58)) = s)
  then some ((wordsF (cutA s 124)).map (wvI 47), (wordsF (cutB s 124)).map (wvI 58)) else none
/-- The reference's state behind some words. -/
structure PnSt where
  h : Bool
  M : List (Int × Int)
  H : List (Int × Int)
def pnStep (st : PnSt) (v : ByteArray) : PnSt :=
  if v = ⟨#[124]⟩ then { st with h := true } else if st.h then { st with H := st.H ++ [pairS 58 v] } else { st with M := st.M ++ [pairS 47 v] }
def pnRun (ws : List ByteArray) : PnSt := ws.foldl pnStep ⟨false, [], []⟩
def pnS (s : ByteArray) : Option (List (Int × Int) × List (Int × Int)) :=
  if decide (s.size ≤ 300) && decide ((splitS s 32).length ≤ 21) && netB (pnRun (splitS s 32)).M (pnRun (splitS s 32)).H && decide (nxT (pnRun (splitS s 32)).M (pnRun (splitS s 32)).H = s)
  then some ((pnRun (splitS s 32)).M, (pnRun (splitS s 32)).H) else none
theorem pnI_some {s : ByteArray} {M H : List (Int × Int)} (h : pnI s = some (M, H)) : netB M H = true ∧ nxT M H = s := by
  unfold pnI at h
  split at h
  · rename_i hc
    simp only [Bool.and_eq_true, decide_eq_true_eq] at hc
    injection h with h
    injection h with h1 h2
    subst h1 h2
    exact ⟨hc.1.2, hc.2⟩
  · cases h
theorem pnS_some {s : ByteArray} {M H : List (Int × Int)} (h : pnS s = some (M, H)) : netB M H = true ∧ nxT M H = s := by
  unfold pnS at h
  split at h
  · rename_i hc
    simp only [Bool.and_eq_true, decide_eq_true_eq] at hc
    injection h with h
    injection h with h1 h2
    subst h1 h2
    exact ⟨hc.1.2, hc.2⟩
  · cases h

section
variable {M H : List (Int × Int)}
theorem minus_one : rnV (itx (-1)) = -1 ∧ rnOk (itx (-1)) = true ∧ readS (itx (-1)) = -1 := by
  have h : Lib.itoa (-1) = [45, 49] := by
    rw [Lib.itoa, if_pos (by omega)]
    show 45 :: Lib.decDigits 1 = _
    rw [Lib.decDigits_one (by omega)]; rfl
  have ha : Lib.atoiAll [45, 49] = .ok (-1) := by decide
  have hl : (itx (-1)).data.toList = [45, 49] := by rw [itx, bt1_list, h]
  refine ⟨by rw [rnV, hl, ha], by rw [rnOk, hl, ha]; simp [h], ?_⟩
  have e : itx (-1) = ⟨#[45, 49]⟩ := by rw [itx, h]; rfl
  rw [e]
  decide
theorem itx_read {p : Int} (h0 : -1 ≤ p) (h1 : p < 10) : rnV (itx p) = p ∧ rnOk (itx p) = true ∧ readS (itx p) = p := by
  by_cases h : 0 ≤ p
  · rw [itx_int h, rnV_txt _ (by omega), rnOk_txt _ (by omega), readS_txt _ (by omega)]
    exact ⟨by omega, rfl, by omega⟩
  · have : p = -1 := by omega
    rw [this]; exact minus_one
theorem itoa_no {p : Int} (h0 : -1 ≤ p) : ∀ c ∈ Lib.itoa p, c ≠ 32 ∧ c ≠ 47 ∧ c ≠ 124 ∧ Lib.isSp c = false ∧ c.toNat < 128 := by
  intro c hc
  by_cases h : 0 ≤ p
  · obtain ⟨n, rfl⟩ := Int.eq_ofNat_of_zero_le h
    rw [Lib.itoa_nonneg] at hc
    have := dig_facts (dec_digs _ c hc)
    exact ⟨this.1, this.2.2.1, this.2.2.2.2.2.2.1, this.2.2.2.2.2.2.2.1, this.2.2.2.2.2.2.2.2⟩
  · rw [Lib.itoa, if_pos (by omega)] at hc
    rcases List.mem_cons.1 hc with rfl | hc
    · decide
    · have := dig_facts (dec_digs _ c hc)
      exact ⟨this.1, this.2.2.1, this.2.2.2.2.2.2.1, this.2.2.2.2.2.2.2.1, this.2.2.2.2.2.2.2.2⟩
theorem nm_no {x : Int × Int} (h0 : -1 ≤ x.1) : ∀ c ∈ nmL x, c ≠ 32 ∧ c ≠ 124 ∧ Lib.isSp c = false ∧ c.toNat < 128 := by
  intro c hc
  rw [nmL, List.mem_append, List.mem_cons] at hc
  rcases hc with hc | rfl | hc
  · have := itoa_no h0 c hc; exact ⟨this.1, this.2.2.1, this.2.2.2.1, this.2.2.2.2⟩
  · decide
  · have := dig_facts (dec_digs _ c hc)
    exact ⟨this.1, this.2.2.2.2.2.2.1, this.2.2.2.2.2.2.2.1, this.2.2.2.2.2.2.2.2⟩
theorem nh_no (x : Int × Int) : ∀ c ∈ nhL x, c ≠ 32 ∧ c ≠ 124 ∧ Lib.isSp c = false ∧ c.toNat < 128 := by
  intro c hc
  rw [nhL, List.mem_append, List.mem_cons] at hc
  rcases hc with hc | rfl | hc
  · have := dig_facts (dec_digs _ c hc)
    exact ⟨this.1, this.2.2.2.2.2.2.1, this.2.2.2.2.2.2.2.1, this.2.2.2.2.2.2.2.2⟩
  · decide
  · have := dig_facts (dec_digs _ c hc)
    exact ⟨this.1, this.2.2.2.2.2.2.1, this.2.2.2.2.2.2.2.1, this.2.2.2.2.2.2.2.2⟩
theorem nm_split (hk : NetOk M H) {x : Int × Int} (h : x ∈ M) : splitS (bt1 (nmL x)) 47 = [itx x.1, txt x.2.toNat] := by
  have hf := main_facts hk h
  apply lists_eq
  rw [splitS_list, bt1_list, nmL, splitL_cut _ (fun c hc => (itoa_no hf.1 c hc).2.1), splitL_none (fun c hc => (dig_facts (dec_digs _ c hc)).2.2.1)]
  rfl
theorem nh_split (x : Int × Int) : splitS (bt1 (nhL x)) 58 = [txt x.1.toNat, txt x.2.toNat] := by
  apply lists_eq
  rw [splitS_list, bt1_list, nhL, splitL_cut _ (fun c hc => (dig_facts (dec_digs _ c hc)).2.2.2.1), splitL_none (fun c hc => (dig_facts (dec_digs _ c hc)).2.2.2.1)]
  rfl
theorem nm_word (hk : NetOk M H) {x : Int × Int} (h : x ∈ M) : wvI 47 (bt1 (nmL x)) = x ∧ wokI 47 (bt1 (nmL x)) = true ∧ pairS 47 (bt1 (nmL x)) = x := by
  have hf := main_facts hk h
  obtain ⟨e1, e2, e3⟩ := itx_read hf.1 hf.2.1
  have hn : ((x.2.toNat : Nat) : Int) = x.2 := by omega
  unfold wvI wokI pairS
  rw [nm_split hk h]
  simp only [List.getD_cons_zero, List.getD_cons_succ, List.all_cons, List.all_nil, List.length_cons, List.length_nil, e1, e2, e3, rnV_txt _ (show x.2.toNat < 9223372036854775808 by omega), rnOk_txt _ (show x.2.toNat < 9223372036854775808 by omega), readS_txt _ (show x.2.toNat < 1000000 by omega), hn]
  simp
theorem nh_word (hk : NetOk M H) {x : Int × Int} (h : x ∈ H) : wvI 58 (bt1 (nhL x)) = x ∧ wokI 58 (bt1 (nhL x)) = true ∧ pairS 58 (bt1 (nhL x)) = x := by
  have hf := hyd_facts hk h
  have h1 : ((x.1.toNat : Nat) : Int) = x.1 := by omega
  have hn : ((x.2.toNat : Nat) : Int) = x.2 := by omega
  unfold wvI wokI pairS
  rw [nh_split x]
  simp only [List.getD_cons_zero, List.getD_cons_succ, List.all_cons, List.all_nil, List.length_cons, List.length_nil, rnV_txt _ (show x.1.toNat < 9223372036854775808 by omega), rnOk_txt _ (show x.1.toNat < 9223372036854775808 by omega), readS_txt _ (show x.1.toNat < 1000000 by omega), h1, rnV_txt _ (show x.2.toNat < 9223372036854775808 by omega), rnOk_txt _ (show x.2.toNat < 9223372036854775808 by omega), readS_txt _ (show x.2.toNat < 1000000 by omega), hn]
  simp
theorem nm_bar (x : Int × Int) : bt1 (nmL x) ≠ ⟨#[124]⟩ := by
  intro e
  have h := congrArg (fun b : ByteArray => b.data.toList) e
  have h2 : (47 : UInt8) ∈ nmL x := by simp [nmL]
  have h3 : nmL x = [124] := h
  rw [h3] at h2
  simp at h2
theorem nh_bar (x : Int × Int) : bt1 (nhL x) ≠ ⟨#[124]⟩ := by
  intro e
  have h := congrArg (fun b : ByteArray => b.data.toList) e
  have h2 : (58 : UInt8) ∈ nhL x := by simp [nhL]
  have h3 : nhL x = [124] := h
  rw [h3] at h2
  simp at h2
theorem ascii_words {ws : List (List UInt8)} (h : ∀ v ∈ ws, ∀ c ∈ v, c.toNat < 128) : (∀ b ∈ ws.flatMap (· ++ [32]), b.toNat < 128) ∧ (∀ b ∈ ws.flatMap (32 :: ·), b.toNat < 128) := by
  constructor
  · intro b hb
    obtain ⟨v, hv, hbv⟩ := List.mem_flatMap.1 hb
    rw [List.mem_append, List.mem_singleton] at hbv
    rcases hbv with hbv | rfl
    · exact h v hv b hbv
    · decide
  · intro b hb
    obtain ⟨v, hv, hbv⟩ := List.mem_flatMap.1 hb
    rcases List.mem_cons.1 hbv with rfl | hbv
    · decide
    · exact h v hv b hbv
theorem word_ne (x : Int × Int) : nmL x ≠ [] ∧ nhL x ≠ [] := by
  constructor <;> intro e <;> have := congrArg List.length e <;> simp [nmL, nhL] at this
/-- The program reads back the text of every net. -/
theorem net_back_I (hb : netB M H = true) {s : ByteArray} (h : nxT M H = s) : pnI s = some (M, H) := by
  have hk := netB_ok hb
  have hl : s.data.toList = (M.map nmL).flatMap (· ++ [32]) ++ 124 :: (H.map nhL).flatMap (32 :: ·) := by rw [← h, nxT_list]
  have hnb : ∀ c ∈ (M.map nmL).flatMap (· ++ [32]), c ≠ 124 := by
    intro c hc
    obtain ⟨v, hv, hcv⟩ := List.mem_flatMap.1 hc
    obtain ⟨x, hx, rfl⟩ := List.mem_map.1 hv
    rw [List.mem_append, List.mem_singleton] at hcv
    rcases hcv with hcv | rfl
    · exact (nm_no (main_facts hk hx).1 c hcv).2.1
    · decide
  have hc := cut_byte (r := (H.map nhL).flatMap (32 :: ·)) hnb
  rw [← hl] at hc
  have ha : (cutA s 124).data.toList = (M.map nmL).flatMap (· ++ [32]) := by rw [cutA, hc]
  have hbb : (cutB s 124).data.toList = (H.map nhL).flatMap (32 :: ·) := by rw [cutB, hc]
  have hwm : wordsF (cutA s 124) = M.map fun x => bt1 (nmL x) := by
    have hasc := (ascii_words (ws := M.map nmL) (by
      intro v hv c hcv
      obtain ⟨x, hx, rfl⟩ := List.mem_map.1 hv
      exact (nm_no (main_facts hk hx).1 c hcv).2.2.2)).1
    rw [wordsF, ha, Lib.fieldsD_ascii _ hasc, fields_ends (ws := M.map nmL) (by
      intro v hv
      obtain ⟨x, hx, rfl⟩ := List.mem_map.1 hv
      exact ⟨(word_ne x).1, fun c hc => (nm_no (main_facts hk hx).1 c hc).2.2.1⟩), List.map_map]
    rfl
  have hwh : wordsF (cutB s 124) = H.map fun x => bt1 (nhL x) := by
    have hasc := (ascii_words (ws := H.map nhL) (by
      intro v hv c hcv
      obtain ⟨x, hx, rfl⟩ := List.mem_map.1 hv
      exact (nh_no x c hcv).2.2.2)).2
    rw [wordsF, hbb, Lib.fieldsD_ascii _ hasc, fields_begins (ws := H.map nhL) (by
      intro v hv
      obtain ⟨x, hx, rfl⟩ := List.mem_map.1 hv
      exact ⟨(word_ne x).2, fun c hc => (nh_no x c hc).2.2.1⟩), List.map_map]
    rfl
  have m1 : (M.map fun x => bt1 (nmL x)).map (wvI 47) = M := by
    rw [List.map_map]
    have : ∀ x ∈ M, (wvI 47 ∘ fun x => bt1 (nmL x)) x = id x := fun x hx => (nm_word hk hx).1
    rw [List.map_congr_left this, List.map_id]
  have m2 : (H.map fun x => bt1 (nhL x)).map (wvI 58) = H := by
    rw [List.map_map]
    have : ∀ x ∈ H, (wvI 58 ∘ fun x => bt1 (nhL x)) x = id x := fun x hx => (nh_word hk hx).1
    rw [List.map_congr_left this, List.map_id]
  have o1 : (M.map fun x => bt1 (nmL x)).all (wokI 47) = true := by
    rw [List.all_map, List.all_eq_true]
    exact fun x hx => (nm_word hk hx).2.1
  have o2 : (H.map fun x => bt1 (nhL x)).all (wokI 58) = true := by
    rw [List.all_map, List.all_eq_true]
    exact fun x hx => (nh_word hk hx).2.1
  rw [pnI, hwm, hwh, m1, m2, o1, o2, hb, decide_eq_true h]
  rfl
theorem run_mains (hk : NetOk M H) : ∀ (L A : List (Int × Int)), (∀ x ∈ L, x ∈ M) → (L.map fun x => bt1 (nmL x)).foldl pnStep ⟨false, A, []⟩ = ⟨false, A ++ L, []⟩
  | [], A, _ => by simp
  | x :: L, A, h => by
    have hx := nm_word hk (h x (List.mem_cons_self ..))
    have e : pnStep ⟨false, A, []⟩ (bt1 (nmL x)) = ⟨false, A ++ [x], []⟩ := by
      unfold pnStep
      rw [if_neg (nm_bar x), hx.2.2]
      rfl
    rw [List.map_cons, List.foldl_cons, e, run_mains hk L (A ++ [x]) (fun y hy => h y (List.mem_cons_of_mem _ hy))]
    simp
theorem run_hyds (hk : NetOk M H) (A : List (Int × Int)) : ∀ (L B : List (Int × Int)), (∀ x ∈ L, x ∈ H) → (L.map fun x => bt1 (nhL x)).foldl pnStep ⟨true, A, B⟩ = ⟨true, A, B ++ L⟩
  | [], B, _ => by simp
  | x :: L, B, h => by
    have hx := nh_word hk (h x (List.mem_cons_self ..))
    have e : pnStep ⟨true, A, B⟩ (bt1 (nhL x)) = ⟨true, A, B ++ [x]⟩ := by
      unfold pnStep
      rw [if_neg (nh_bar x), hx.2.2]
      rfl
    rw [List.map_cons, List.foldl_cons, e, run_hyds hk A L (B ++ [x]) (fun y hy => h y (List.mem_cons_of_mem _ hy))]
    simp
theorem split_ends {b : UInt8} (r : List UInt8) : ∀ {ps : List (List UInt8)}, (∀ p ∈ ps, ∀ x ∈ p, x ≠ b) → splitL b (ps.flatMap (· ++ [b]) ++ r) = ps ++ splitL b r
  | [], _ => rfl
  | p :: ps, h => by
    rw [List.flatMap_cons, List.append_assoc, List.append_assoc, List.singleton_append, splitL_cut _ (h p (List.mem_cons_self ..)), split_ends r (ps := ps) (fun q hq => h q (List.mem_cons_of_mem _ hq))]
    rfl
/-- And so does the reference. -/
theorem net_back_S (hb : netB M H = true) {s : ByteArray} (h : nxT M H = s) : pnS s = some (M, H) := by
  have hk := netB_ok hb
  have hl : s.data.toList = (M.map nmL).flatMap (· ++ [32]) ++ ([124] ++ (H.map nhL).flatMap (32 :: ·)) := by rw [← h, nxT_list]; rfl
  have hs : splitS s 32 = (M.map fun x => bt1 (nmL x)) ++ (⟨#[124]⟩ :: H.map fun x => bt1 (nhL x)) := by
    apply lists_eq
    rw [splitS_list, hl, split_ends _ (ps := M.map nmL) (by
      intro v hv c hcv
      obtain ⟨x, hx, rfl⟩ := List.mem_map.1 hv
      exact (nm_no (main_facts hk hx).1 c hcv).1), splitL_begins (ps := H.map nhL) (p := [124]) (by decide) (by
      intro v hv c hcv
      obtain ⟨x, hx, rfl⟩ := List.mem_map.1 hv
      exact (nh_no x c hcv).1), List.map_append, List.map_map, List.map_cons, List.map_map]
    rfl
  have hr : pnRun (splitS s 32) = ⟨true, M, H⟩ := by
    rw [pnRun, hs, List.foldl_append, run_mains hk M [] (fun _ hx => hx), List.foldl_cons]
    have e : pnStep ⟨false, [] ++ M, []⟩ ⟨#[124]⟩ = ⟨true, M, []⟩ := by
      unfold pnStep
      rw [if_pos rfl]
      rfl
    rw [e, run_hyds hk M H [] (fun _ hx => hx)]
    rfl
  have h21 : (splitS s 32).length ≤ 21 := by
    rw [hs]
    have := hk.m10
    have := hk.h10
    simp only [List.length_append, List.length_map, List.length_cons]
    omega
  have h300 : s.size ≤ 300 := by rw [← h]; exact nxT_size hk
  rw [pnS, hr, hb, decide_eq_true h, decide_eq_true h21, decide_eq_true h300]
  rfl
/-- Both ways agree. -/
theorem pn_same (s : ByteArray) : pnI s = pnS s := by
  cases h : pnI s with
  | some l => exact (net_back_S (pnI_some (M := l.1) (H := l.2) h).1 (pnI_some (M := l.1) (H := l.2) h).2).symm
  | none =>
    cases h2 : pnS s with
    | none => rfl
    | some l => rw [net_back_I (pnS_some (M := l.1) (H := l.2) h2).1 (pnS_some (M := l.1) (H := l.2) h2).2] at h; cases h
end
end Go.Proofs.YtfcpgpmhjadanaaGreatDoor
namespace Go.Proofs.YtfcpgpmhjadanaaGreatDoor
open Go.RowKit
set_option linter.unusedVariables false

theorem infoIntN : (Tryz.prog.info? 3).map (fun i => (i.zero, i.size, i.bytes)) = some (some (.int .i64 0), 1, 8) := by kernel_rfl
/-- The first k numbers. -/
def numsV (L : List ByteArray) (k : Nat) : List Value := (L.take k).map fun x => Value.int .i64 (rnV x)
/-- What readNumbers hands back: whether all are numbers; if so, these. -/
def NumsPost (v : ByteArray) (b : UInt8) (w : World) (e : Ending) (w' : World) : Prop :=
  (∃ (A : Option Addr) (n c : Nat), e = .returned (.tuple #[.slice A n c, .bool ((splitS v b).all rnOk)]) ∧ ((splitS v b).all rnOk = true → n = (splitS v b).length ∧ Rd w' A ((splitS v b).map fun x => Value.int .i64 (rnV x)))) ∧ Below w.heap.size w w'

set_option maxRecDepth 100000 in
set_option maxHeartbeats 8000000 in
theorem readNumbers_any (v : ByteArray) (b : UInt8) (w : World) (hs : v.size ≤ 1048578) (he : TxtEnv w) :
    Calls Tryz.prog 71 #[.string v, .string ⟨#[b]⟩] w (NumsPost v b w) := by
  obtain ⟨i0, hi0, hz0, hz1, hz2⟩ := info_parts infoIntN
  have Hi := hide hi0
  have Hz := hide (And.intro hz0 (And.intro hz1 hz2))
  clear hi0 hz0 hz1 hz2
  have HE := hide (fun W (h : Below w.heap.size w W) => he.below h)
  have Q2 := hide (cuts_any v b w (by omega) he.max)
  have QW := hide (fun (x : ByteArray) (hx : x ∈ splitS v b) => Nat.le_trans (splitS_size _ _ hx) hs)
  have QN := hide (show (splitS v b).length ≤ 1048579 from Nat.le_trans (splitS_len _ _) (by omega))
  have HPP := hide (show NumsPost v b w = fun e w' => (∃ (A : Option Addr) (n c : Nat), e = .returned (.tuple #[.slice A n c, .bool ((splitS v b).all rnOk)]) ∧ ((splitS v b).all rnOk = true → n = (splitS v b).length ∧ Rd w' A ((splitS v b).map fun x => Value.int .i64 (rnV x)))) ∧ Below w.heap.size w w' from rfl)
  rw [HPP.out]
  generalize splitS v b = L at *
  clear he HPP
  go_enter Tryz.func71, Tryz.ntmps71
  go_wp2_with fail
  refine Q2.out.mono ?_
  rintro e w3 ⟨⟨gw, n, rfl, hn, hgw, hrd⟩, hq⟩
  have HB3 := hide hq
  have Hn := hide hn
  have HR := hide hrd
  have hn2 : n ≤ 1048579 := by have := QN.out; omega
  have HGW := hide hgw.2
  clear hq hn hrd hgw Q2
  have HBZ := hide HB3.out.size
  generalize hN3 : w3.heap.size = N3 at HGW HBZ
  have HZ3 := hide (Nat.le_of_eq hN3.symm)
  clear hN3
  go_wp2_with fail
  go_loopg [15, 6] n (fun g t s wr => ∃ (k : Nat) (A : Option Addr) (cap : Nat), t = .int .i64 (k : Int) ∧ s = .slice A k cap ∧ k ≤ n ∧ Hid (n ≤ g + k) ∧ Hid ((L.take k).all rnOk = true) ∧ Hid (wr.ownsRow N3 3 1 (.slice A k cap) k (numsV L k)) ∧ Hid (Rd wr (some ⟨gw, 0, none⟩) (L.map Value.string)) ∧ Hid (Below w.heap.size w wr) ∧ Hid (N3 ≤ wr.heap.size))
  case atStart => exact ⟨0, none, 0, rfl, rfl, by omega, hide (by omega), hide rfl, hide (World.ownsRow_nil _ _ _ _), HR, HB3, HZ3⟩
  case round =>
    obtain ⟨k, A, cap, rfl, rfl, hk, HGH, HAL, HO, HRR, HB, HZ⟩ := hrel
    by_cases hlt : k < n
    · obtain ⟨x, hx⟩ : ∃ x, L[k]? = some x := ⟨_, List.getElem?_eq_getElem (by rw [← Hn.out]; exact hlt)⟩
      have hxm := List.mem_of_getElem? hx
      have hxz := QW.out x hxm
      obtain ⟨b', off', e1, hbs, c0⟩ := HRR.out.get1 (k := k) (u := .string x) (by rw [List.getElem?_map, hx]; rfl)
      injection e1 with e1; injection e1 with e2 e3; subst e2; subst e3
      rw [Nat.zero_add] at c0
      have P1 := hide (readNumber_any x wr (by omega) (HE.out wr HB.out).num)
      have HMT := hide (show numsV L (k + 1) = numsV L k ++ [Value.int .i64 (rnV x)] from map_take_succ (fun x => Value.int .i64 (rnV x)) hx)
      have HAS := hide (fun h => all_take_succ rnOk hx HAL.out h)
      have HBAD := hide (fun (h : rnOk x = false) => show L.all rnOk = false from all_false_of rnOk (k := k) hx h)
      clear hx hxm hxz
      go_wp2_with fail
      refine P1.out.mono ?_
      rintro e x1 ⟨rfl, hq⟩
      have HX := hide hq
      clear hq P1 c0
      generalize rnV x = y at *
      generalize hk2 : rnOk x = k2 at *
      cases k2 with
      | false =>
        have HN := hide (HBAD.out rfl)
        have HBX := hide (below_step HB.out HX.out)
        clear hk2 HBAD HAS
        go_wp2
        go_ret2
        exact ⟨⟨none, 0, 0, by rw [HN.out]; rfl, fun h => by rw [HN.out] at h; cases h⟩, HBX.out⟩
      | true =>
        have HAT := hide (HAS.out rfl)
        have HRX := hide (HRR.out.below HX.out)
        have HOX := hide (own_below HO.out HX.out)
        have HBX := hide (below_step HB.out HX.out)
        have HX0 := hide HX.out.size
        clear HX HB HRR HO HBAD hk2 HAS
        have HOA := hide (World.ownsRow.alloc HOX.out (.cells #[.int .i64 y] 3))
        have HBA := hide (Row.new x1 #[.int .i64 y] 3)
        have HRA := hide (HRX.out.alloc (.cells #[.int .i64 y] 3))
        have HBW := hide (below_alloc HBX.out (.cells #[.int .i64 y] 3))
        have HSZ := hide (show N3 ≤ (x1.alloc (.cells #[.int .i64 y] 3)).heap.size from Nat.le_trans HZ.out (Nat.le_trans HX0.out (by simp)))
        clear HRX HOX HBX
        go_wp2_with (at_builtin; refine wpList_append_any rfl (.tmp 26) (.tmp 28) 28 rfl N3 3 i0 (.int .i64 0) 1 8 Tryz.underlying28 Hi.out Hz.out.1 Hz.out.2.1 Hz.out.2.2 rfl (by decide) (.slice A k cap) k (numsV L k) rfl HOA.out (some ⟨x1.heap.size, 0, none⟩) 1 1 [.int .i64 y] rfl rfl (fun e => by cases e) (fun ad e j u hu => by cases e; rw [Addr.add_lit, Nat.zero_add]; exact HBA.out.2.1 j u hu) (fun u hu => by simp at hu; rw [hu]; rfl) (by unfold maxLen; omega) (by omega) HSZ.out ?_)
        intro v6 w6 hown hgrow
        have HO6 : Hid (w6.ownsRow N3 3 1 v6 (k + 1) (numsV L (k + 1))) := hide (by rw [HMT.out]; exact hown)
        have HNB := hide (fun q hq => (HOA.out.lt q hq).1)
        have HR6 := hide (HRA.out.grown hgrow (fun b off sp e e2 => by injection e with e; injection e with e3 e4 e5; subst e3; have h1 := HNB.out _ e2.symm; have h2 := HGW.out; omega))
        have HB6 := hide (HBW.out.grown hgrow HBW.out.size (fun q hq => by have h1 := HNB.out _ hq; have h2 := HBZ.out; omega))
        have HZ6 := hide (Nat.le_trans HSZ.out hgrow.size)
        clear hown hgrow HOA HBA HRA HBW HSZ
        obtain ⟨A6, c6, rfl, -⟩ := own_open HO6.out
        go_wp2
        go_roundg (gk - 1)
        case rel => exact ⟨k + 1, A6, c6, by go_num, rfl, by omega, hide (by have := HGH.out; omega), HAT, HO6, HR6, HB6, HZ6⟩
        case measure => have := HGH.out; omega
    · obtain rfl : k = n := by omega
      have HTA := hide (show L.all rnOk = true by have h := HAL.out; rwa [List.take_of_length_le (by have := Hn.out; omega)] at h)
      have HTK := hide (show numsV L k = L.map fun x => Value.int .i64 (rnV x) by rw [numsV, List.take_of_length_le (by have := Hn.out; omega)])
      rw [HTK.out] at HO
      have HRD := hide (own_rd HO.out)
      go_wp2
      go_ret2
      exact ⟨⟨_, _, _, by rw [HTA.out]; rfl, fun _ => ⟨Hn.out, HRD.out⟩⟩, HB.out⟩

set_option maxRecDepth 100000 in
set_option maxHeartbeats 4000000 in
theorem hyPair_any (v : ByteArray) (b : UInt8) (w : World) (hs : v.size ≤ 1048578) :
    Calls Tryz.prog 49 #[.string v, .int .u8 (b.toNat : Int)] w fun e w' => e = .returned (.tuple #[.int .i64 (pairS b v).1, .int .i64 (pairS b v).2]) ∧ Below w.heap.size w w' := by
  have Q := hide (split_any v b w (by omega))
  have HZ := hide (fun x (hx : x ∈ splitS v b) => Nat.le_trans (splitS_size v b hx) hs)
  have HV : Hid (pairS b v = if (splitS v b).length = 2 then (readS ((splitS v b).getD 0 ByteArray.empty), readS ((splitS v b).getD 1 ByteArray.empty)) else (-1, -1)) := hide rfl
  generalize pairS b v = o at *
  by_cases h2 : (splitS v b).length = 2
  · obtain ⟨a, c, hab⟩ : ∃ a c, splitS v b = [a, c] := by
      match hq : splitS v b, h2 with
      | [a, c], _ => exact ⟨a, c, rfl⟩
    rw [hab] at HV HZ Q
    have HO := hide (show o = (readS a, readS c) by rw [HV.out]; rfl)
    have hza := HZ.out a (by simp)
    have hzb := HZ.out c (by simp)
    have E0 := hide (fun W => read_any a W (by unfold maxLen; omega))
    have E1 := hide (fun W => read_any c W (by unfold maxLen; omega))
    clear h2 hab hza hzb HZ hs HV
    rw [HO.out]
    clear HO
    dsimp only
    generalize readS a = ya at *
    generalize readS c = yc at *
    go_enter Tryz.func49, Tryz.ntmps49
    go_wp2_with fail
    refine Q.out.mono ?_
    rintro e w1 ⟨⟨v', rfl, ho⟩, hq⟩
    obtain ⟨A, cap, rfl, hrd, -⟩ := own_open ho
    obtain ⟨b1, off, rfl, hbs, c0⟩ := hrd.get1 (k := 0) (u := .string a) rfl
    obtain ⟨b3, off3, e3, hbs3, c1⟩ := hrd.get1 (k := 1) (u := .string c) rfl
    injection e3 with e3; injection e3 with e4 e5; subst e4; subst e5
    have c0 : w1.cell? ⟨b1, off, none⟩ = some (.string a) := c0
    have HB1 := hide hq
    clear hq Q ho hrd
    go_wp2_with fail
    refine wp_region_later (by kernel_rfl) (by kernel_rfl) ?_
    repeat (go_big_quiet_step ((go_at_call 72; (first | with_reducible exact calls_later (E0.out _) | with_reducible exact calls_later (E1.out _)))))
    refine wpQuiet_nil ?_
    refine later_intro fun w5 hb5 => ?_
    have HB5 := hide (below_step HB1.out hb5)
    clear hb5
    go_wp2
    go_ret2
    exact ⟨rfl, HB5.out⟩
  · have HF := hide (show o = (-1, -1) by rw [HV.out, if_neg h2])
    have g2 : ((splitS v b).length : Int) ≠ 2 := by omega
    generalize splitS v b = L at *
    clear HV HZ h2 hs
    rw [HF.out]
    go_enter Tryz.func49, Tryz.ntmps49
    go_wp2_with fail
    refine Q.out.mono ?_
    rintro e w1 ⟨⟨v', rfl, ho⟩, hq⟩
    obtain ⟨A, cap, rfl, hrd, -⟩ := own_open ho
    have HB1 := hide hq
    clear hq Q ho hrd
    go_wp2_with fail
    go_ret2
    exact ⟨rfl, HB1.out⟩
end Go.Proofs.YtfcpgpmhjadanaaGreatDoor
namespace Go.Proofs.YtfcpgpmhjadanaaGreatDoor
open Go.RowKit
set_option linter.unusedVariables false

end Go.Proofs.YtfcpgpmhjadanaaGreatDoor
namespace Go.Proofs.YtfcpgpmhjadanaaGreatDoor
open Go.RowKit
set_option linter.unusedVariables false

end Go.Proofs.YtfcpgpmhjadanaaGreatDoor
namespace Go.Proofs.YtfcpgpmhjadanaaGreatDoor
open Go.RowKit
set_option linter.unusedVariables false

end Go.Proofs.YtfcpgpmhjadanaaGreatDoor
namespace Go.Proofs.YtfcpgpmhjadanaaGreatDoor
open Go.RowKit
set_option linter.unusedVariables false

theorem grown_cell {w w' : World} {row : Option Nat} {b o : Nat} {v : Value} (hg : w.grownBy w' row) (h : w.cell? ⟨b, o, none⟩ = some v) (hne : some b ≠ row) : w'.cell? ⟨b, o, none⟩ = some v := hg.cell h hne
theorem own_kept {w w' : World} {B n sz : Nat} {e : TypeId} {v : Value} {xs : List Value} {row : Option Nat} (h : w.ownsRow B e sz v n xs) (hg : w.grownBy w' row) (hne : ∀ k, v.ownBlock = some k → some k ≠ row) : w'.ownsRow B e sz v n xs := own_apart h hg hne
end Go.Proofs.YtfcpgpmhjadanaaGreatDoor
namespace Go.Proofs.YtfcpgpmhjadanaaGreatDoor
open Go.RowKit
set_option linter.unusedVariables false

def outM (o : Option (List (Int × Int) × List (Int × Int))) : List (Int × Int) := match o with
  | some x => x.1
  | none => []
def outY (o : Option (List (Int × Int) × List (Int × Int))) : List (Int × Int) := match o with
  | some x => x.2
  | none => []
def OwnP (w : World) (B : Nat) (M H : List (Int × Int)) (v v' : Value) : Prop := w.ownsRow B 36 2 v M.length (M.flatMap mcells) ∧ w.ownsRow B 73 2 v' H.length (H.flatMap mcells)
def NetOut (o : Option (List (Int × Int) × List (Int × Int))) (w : World) (e : Ending) (w' : World) : Prop :=
  (∃ v v', e = .returned (.tuple #[.agg #[v, v'], .bool o.isSome]) ∧ OwnP w' w.heap.size (outM o) (outY o) v v') ∧ Below w.heap.size w w'
theorem NetOut.no {o : Option (List (Int × Int) × List (Int × Int))} {w w' : World} (h : o = none) (hb : Below w.heap.size w w') : NetOut o w (.returned (.tuple #[.agg #[.slice none 0 0, .slice none 0 0], .bool false])) w' := by
  subst h
  exact ⟨⟨_, _, rfl, World.ownsRow_nil _ _ _ _, World.ownsRow_nil _ _ _ _⟩, hb⟩
theorem NetOut.yes {o : Option (List (Int × Int) × List (Int × Int))} {M H : List (Int × Int)} {w w' : World} {v v' : Value} (h : o = some (M, H)) (hv : w'.ownsRow w.heap.size 36 2 v M.length (M.flatMap mcells)) (hv' : w'.ownsRow w.heap.size 73 2 v' H.length (H.flatMap mcells)) (hb : Below w.heap.size w w') : NetOut o w (.returned (.tuple #[.agg #[v, v'], .bool true])) w' := by
  subst h
  exact ⟨⟨_, _, rfl, hv, hv'⟩, hb⟩
theorem infoMainP : (Tryz.prog.info? 36).map (fun i => (i.zero, i.size, i.bytes)) = some (some (.agg #[.int .i64 0, .int .i64 0]), 2, 16) := by kernel_rfl
theorem infoHydP : (Tryz.prog.info? 73).map (fun i => (i.zero, i.size, i.bytes)) = some (some (.agg #[.int .i64 0, .int .i64 0]), 2, 16) := by kernel_rfl
theorem texts_ne {a b : ByteArray} (h : a ≠ b) : (a.toList == b.toList) = false := by rw [texts_eq, decide_eq_false h]
theorem cut_size (s : ByteArray) (b : UInt8) : (cutA s b).size ≤ s.size ∧ (cutB s b).size ≤ s.size := by
  have ha : (cutA s b).size = (Lib.cut s.data.toList [b]).1.length := rfl
  have hb : (cutB s b).size = (Lib.cut s.data.toList [b]).2.1.length := rfl
  have hs : s.size = s.data.toList.length := rfl
  rw [ha, hb, hs]
  rcases cut_cases b s.data.toList with h | ⟨p, r, e, hp⟩
  · rw [cut_no h]; simp
  · have hc := cut_byte (r := r) hp
    rw [← e] at hc
    rw [hc, e]
    simp only [List.length_append, List.length_cons]
    omega
theorem pnI_bad1 {s v : ByteArray} (hv : v ∈ wordsF (cutA s 124)) (h : wokI 47 v = false) : pnI s = none := by
  unfold pnI
  rw [if_neg]
  intro hc
  simp only [Bool.and_eq_true, List.all_eq_true] at hc
  rw [hc.1.1.1 v hv] at h
  cases h
theorem pnI_bad2 {s v : ByteArray} (hv : v ∈ wordsF (cutB s 124)) (h : wokI 58 v = false) : pnI s = none := by
  unfold pnI
  rw [if_neg]
  intro hc
  simp only [Bool.and_eq_true, List.all_eq_true] at hc
  rw [hc.1.1.2 v hv] at h
  cases h
theorem pnI_good {s : ByteArray} (h1 : (wordsF (cutA s 124)).all (wokI 47) = true) (h2 : (wordsF (cutB s 124)).all (wokI 58) = true) : pnI s = if netB ((wordsF (cutA s 124)).map (wvI 47)) ((wordsF (cutB s 124)).map (wvI 58)) && decide (nxT ((wordsF (cutA s 124)).map (wvI 47)) ((wordsF (cutB s 124)).map (wvI 58)) = s) then some ((wordsF (cutA s 124)).map (wvI 47), (wordsF (cutB s 124)).map (wvI 58)) else none := by
  rw [pnI, h1, h2, Bool.true_and, Bool.true_and]
theorem outN_le (s : ByteArray) : (outM (pnS s)).length + (outY (pnS s)).length ≤ 1048576 := by
  cases h : pnS s with
  | none => simp [outM, outY]
  | some x =>
    have hk := netB_ok (pnS_some (M := x.1) (H := x.2) h).1
    have := hk.m10
    have := hk.h10
    show x.1.length + x.2.length ≤ 1048576
    omega
end Go.Proofs.YtfcpgpmhjadanaaGreatDoor
namespace Go.Proofs.YtfcpgpmhjadanaaGreatDoor
open Go.RowKit
set_option linter.unusedVariables false

set_option maxRecDepth 100000 in
set_option maxHeartbeats 8000000 in
theorem parseNet_any (s : ByteArray) (w : World) (hs : s.size ≤ 1048576) (he : WrdEnv w) :
    Calls Tryz.prog 47 #[.string s] w (NetOut (pnI s) w) := by
  obtain ⟨i0, hi0, hz0, hz1, hz2⟩ := info_parts infoMainP
  have Hi := hide hi0
  have Hz := hide (And.intro hz0 (And.intro hz1 hz2))
  clear hi0 hz0 hz1 hz2
  obtain ⟨j0, hi0, hz0, hz1, hz2⟩ := info_parts infoHydP
  have Hj := hide hi0
  have Hy := hide (And.intro hz0 (And.intro hz1 hz2))
  clear hi0 hz0 hz1 hz2
  have hcs := cut_size s 124
  have HE := hide (fun W (h : Below w.heap.size w W) => he.below h)
  have Q1 := hide (fun W (h : Below w.heap.size w W) => cut_any s 124 W (by omega) (HE.out W h).txt.max)
  have Q3 := hide (fun W (h : Below w.heap.size w W) => words_any (cutA s 124) W (by omega) (HE.out W h).fld)
  have Q4 := hide (fun W (h : Below w.heap.size w W) => words_any (cutB s 124) W (by omega) (HE.out W h).fld)
  have QW := hide (fun (v : ByteArray) (hv : v ∈ wordsF (cutA s 124)) => Nat.le_trans (wordsF_size hv) (Nat.le_trans hcs.1 hs))
  have QX := hide (fun (v : ByteArray) (hv : v ∈ wordsF (cutB s 124)) => Nat.le_trans (wordsF_size hv) (Nat.le_trans hcs.2 hs))
  have QN := hide (show (wordsF (cutA s 124)).length ≤ 1048578 from Nat.le_trans (wordsF_length _) (by omega))
  have QM := hide (show (wordsF (cutB s 124)).length ≤ 1048578 from Nat.le_trans (wordsF_length _) (by omega))
  have B1 := hide (fun v (hv : v ∈ wordsF (cutA s 124)) h => pnI_bad1 (s := s) hv h)
  have B2 := hide (fun v (hv : v ∈ wordsF (cutB s 124)) h => pnI_bad2 (s := s) hv h)
  have HGD := hide (fun h1 h2 => pnI_good (s := s) h1 h2)
  have HF0 := hide ((Row.new w #[.slice none 0 0, .slice none 0 0] 27).alloc (.cells #[.slice none 0 0, .slice none 0 0] 27))
  have hg0 := Row.new (w.alloc (.cells #[.slice none 0 0, .slice none 0 0] 27)) #[.slice none 0 0, .slice none 0 0] 27
  rw [show (w.alloc (.cells #[.slice none 0 0, .slice none 0 0] 27)).heap.size = w.heap.size + 1 by simp] at hg0
  have HG0 := hide hg0
  have H0 := hide (below_alloc (below_alloc (Below.refl w.heap.size w) (.cells #[.slice none 0 0, .slice none 0 0] 27)) (.cells #[.slice none 0 0, .slice none 0 0] 27))
  generalize pnI s = o at *
  generalize cutA s 124 = sa at *
  generalize cutB s 124 = sb at *
  generalize wordsF sa = L at *
  generalize wordsF sb = R at *
  clear he hcs hg0
  go_enter Tryz.func47, Tryz.ntmps47
  go_wp2_with fail
  refine (Q1.out _ H0.out).mono ?_
  rintro e w1 ⟨rfl, hq⟩
  have HB1 := hide (below_step H0.out hq)
  have HF1 := hide (HF0.out.below hq)
  have HG1 := hide (HG0.out.below hq)
  clear hq Q1 HF0 H0 HG0
  go_wp2_with fail
  refine (Q3.out _ HB1.out).mono ?_
  rintro e w3 ⟨⟨gw, n, rfl, hn, hgw, hrd⟩, hq⟩
  have HB3 := hide (below_step HB1.out hq)
  have HF3 := hide (HF1.out.below hq)
  have HG3 := hide (HG1.out.below hq)
  have Hn := hide hn
  have HR := hide hrd
  have hn2 : n ≤ 1048578 := by have := QN.out; omega
  have HLT := hide (show w.heap.size + 1 < w3.heap.size ∧ w.heap.size + 1 < gw ∧ gw < w3.heap.size from ⟨HG3.out.1, Nat.lt_of_lt_of_le HG1.out.1 hgw.1, hgw.2⟩)
  clear hq hn hrd Q3 HF1 HG1 hgw HB1
  obtain ⟨B4, hB4⟩ : ∃ B4, B4 = w.heap.size + 1 := ⟨_, rfl⟩
  rw [← hB4] at HG3 HLT
  have HB4 := hide (show w.heap.size < B4 by omega)
  rw [← hB4]
  clear hB4
  generalize hN3 : w3.heap.size = N3 at HLT
  have HZ3 := hide (Nat.le_of_eq hN3.symm)
  have HBN := hide (show w.heap.size ≤ N3 by have h1 := HLT.out; have h2 := HB4.out; omega)
  clear hN3
  go_wp2_with fail
  go_loopg [26] n (fun g t wr => ∃ (k : Nat) (A : Option Addr) (cap : Nat), t = .int .i64 (k : Int) ∧ k ≤ n ∧ Hid (n ≤ g + k) ∧ Hid ((L.take k).all (wokI 47) = true) ∧ Hid (Row wr B4 [.slice A k cap, .slice none 0 0]) ∧ Hid (wr.ownsRow N3 36 2 (.slice A k cap) k (((L.take k).map (wvI 47)).flatMap mcells)) ∧ Hid (Row wr w.heap.size [.slice none 0 0, .slice none 0 0]) ∧ Hid (Rd wr (some ⟨gw, 0, none⟩) (L.map Value.string)) ∧ Hid (Below w.heap.size w wr) ∧ Hid (N3 ≤ wr.heap.size))
  case atStart => exact ⟨0, none, 0, rfl, by omega, hide (by omega), hide rfl, HG3, hide (World.ownsRow_nil _ _ _ _), HF3, HR, HB3, HZ3⟩
  case round =>
    obtain ⟨k, A, cap, rfl, hk, HGH, HAL, HGB, HO, HFB, HRR, HB, HZ⟩ := hrel
    by_cases hlt : k < n
    · obtain ⟨v, hv⟩ : ∃ v, L[k]? = some v := ⟨_, List.getElem?_eq_getElem (by rw [← Hn.out]; exact hlt)⟩
      have hvm := List.mem_of_getElem? hv
      have hvz := QW.out v hvm
      obtain ⟨b, off, e1, hbs, c0⟩ := HRR.out.get1 (k := k) (u := .string v) (by rw [List.getElem?_map, hv]; rfl)
      injection e1 with e1; injection e1 with e2 e3; subst e2; subst e3
      rw [Nat.zero_add] at c0
      have P1 := hide (readNumbers_any v 47 wr (by omega) (HE.out wr HB.out).txt)
      have HMT := hide (map_take_succ (wvI 47) hv)
      have HAS := hide (fun h => all_take_succ (wokI 47) hv HAL.out h)
      have HVB := hide (B1.out v hvm)
      have HOK : Hid (wokI 47 v = ((splitS v 47).all rnOk && decide ((splitS v 47).length = 2))) := hide rfl
      have HWV : Hid (wvI 47 v = (rnV ((splitS v 47).getD 0 ByteArray.empty), rnV ((splitS v 47).getD 1 ByteArray.empty))) := hide rfl
      generalize wvI 47 v = sv at *
      generalize wokI 47 v = kv at *
      unfold NumsPost at P1
      generalize splitS v 47 = ps at *
      clear hv hvm hvz
      go_wp2_with fail
      refine P1.out.mono ?_
      rintro e x1 ⟨⟨A1, n1, c1, rfl, hps⟩, hq⟩
      have HX := hide hq
      clear hq P1 c0
      have HFX := hide (HFB.out.below HX.out)
      cases hal : ps.all rnOk with
      | false =>
        have HN := hide (HVB.out (by rw [HOK.out, hal]; rfl))
        have HBX := hide (below_step HB.out HX.out)
        have e0 := HFX.out.2.1 0 _ rfl
        have e1 := HFX.out.2.1 1 _ rfl
        have f0 := HFX.out.free 0
        have f1 := HFX.out.free 1
        clear hal hps HOK
        go_wp2
        exact bodyPost_ret (v := .tuple #[.agg #[.slice none 0 0, .slice none 0 0], .bool false]) (by simp [results, Tryz.results47, go_sem, *]) rfl (NetOut.no HN.out ((HBX.out.setCell (by simp) _).setCell (by simp) _))
      | true =>
        obtain ⟨hn1, hrd1⟩ := hps hal
        by_cases h2 : ps.length = 2
        · obtain ⟨pa, pc, rfl⟩ : ∃ pa pc, ps = [pa, pc] := by
            match ps, h2 with
            | [a, c], _ => exact ⟨a, c, rfl⟩
          have HKV := hide (show kv = true by rw [HOK.out, hal]; rfl)
          have HAT := hide (HAS.out HKV.out)
          have HSV := hide (show sv = (rnV pa, rnV pc) from HWV.out)
          obtain rfl : n1 = 2 := by rw [hn1]; rfl
          obtain ⟨b1, off1, rfl, hbs1, d0⟩ := hrd1.get1 (k := 0) (u := .int .i64 (rnV pa)) rfl
          obtain ⟨b3, off3, e3, hbs3, d1⟩ := hrd1.get1 (k := 1) (u := .int .i64 (rnV pc)) rfl
          injection e3 with e3; injection e3 with e4 e5; subst e4; subst e5
          have d0 : x1.cell? ⟨b1, off1, none⟩ = some (.int .i64 (rnV pa)) := d0
          generalize rnV pa = y0 at *
          generalize rnV pc = y1 at *
          have HGX := hide (HGB.out.below HX.out)
          have HRX := hide (HRR.out.below HX.out)
          have HOX := hide (own_below HO.out HX.out)
          have HBX := hide (below_step HB.out HX.out)
          have HZX := hide (Nat.le_trans HZ.out HX.out.size)
          have g1 := HGX.out.2.1 0 _ rfl
          have gz := HGX.out.1
          clear HX HB HRR HFB HGB HO HZ HVB HAS HOK HWV hal hps hn1 hrd1 h2 HKV
          go_wp2_with fail
          refine wpAnyX_start (fun w' => ∃ n : Later x1, w' = n.w) [10, 12] (n := 13) (by kernel_rfl) rfl rfl ?_
          refine wpAnyX_take [0, 1, 2, 3, 4, 5, 6, 7, 8] 4 rfl (by kernel_rfl) (by intro c a d v w h; cases d <;> exact h) (by kernel_rfl) (by kernel_rfl) (by kernel_rfl) (by simp; rfl) rfl (later_drew _) ?_
          repeat (go_big_quiet_step (fail))
          refine wpQuiet_nil ?_
          clear g1 gz d0 d1
          have HX : Hid (Below x1.heap.size x1 x1.drew) := hide (Below.refl _ _).drew
          generalize x1.drew = V1 at *
          refine wpAnyX_only 9 (by kernel_rfl) (by simp; rfl) rfl rfl (fun K hK => ?_)
          go_wp2_with fail
          have HS := hide (Row.new V1 #[.int .i64 y0, .int .i64 y1] 36)
          replace HX := hide (below_alloc HX.out (.cells #[.int .i64 y0, .int .i64 y1] 36))
          refine ⟨later_of HX.out, ?_⟩
          generalize V1.alloc (.cells #[.int .i64 y0, .int .i64 y1] 36) = V5 at *
          generalize V1.heap.size = sb5 at *
          have HGA := hide (HGX.out.below HX.out)
          have HFA := hide (HFX.out.below HX.out)
          have HRA := hide (HRX.out.below HX.out)
          have HOA := hide (own_below HOX.out HX.out)
          have HBA := hide (below_step HBX.out HX.out)
          have HSZ := hide (Nat.le_trans HZX.out HX.out.size)
          clear HGX HFX HRX HOX HBX HX HZX
          refine wpAnyX_last 10 (by kernel_rfl) (by simp; rfl) rfl rfl (by kernel_rfl) (fun K hK => ?_)
          have hml : maxLen = 9223372036854775807 := rfl
          refine wp_append_lies _ (.tmp 44) (.tmp 52) 24 rfl N3 36 i0 _ 2 16 Tryz.underlying24 Hi.out Hz.out.1 Hz.out.2.1 Hz.out.2.2 rfl (by decide) (.slice A k cap) k (((L.take k).map (wvI 47)).flatMap mcells) rfl HOA.out ⟨sb5, 0, none⟩ 1 1 (mcells (y0, y1)) rfl rfl (fun q u hu => by rw [Addr.add_lit, Nat.zero_add]; exact HS.out.2.1 q u hu) (fun u hu => by simp [mcells] at hu; rcases hu with rfl | rfl <;> rfl) (by omega) (by omega) (by omega) HSZ.out V5.heap.size rfl (fun g' cap' w6 hown hgrow _ hlt' => ?_)
          have HO6 : Hid (w6.ownsRow N3 36 2 (.slice (some ⟨g', 0, none⟩) (k + 1) cap') (k + 1) (((L.take (k + 1)).map (wvI 47)).flatMap mcells)) := hide (by rw [HMT.out, List.flatMap_append, HSV.out]; simpa using hown)
          have HNB := hide (fun q hq => (HOA.out.lt q hq).1)
          have HG6 := hide (HGA.out.grown hgrow (fun e => by have h1 := HNB.out _ e.symm; have h2 := HLT.out; omega))
          have HF6 := hide (HFA.out.grown hgrow (fun e => by have h1 := HNB.out _ e.symm; have h2 := HLT.out; have h3 := HB4.out; omega))
          have HR6 := hide (HRA.out.grown hgrow (fun b off sp e e2 => by injection e with e; injection e with e3 e4 e5; subst e3; have h1 := HNB.out _ e2.symm; have h2 := HLT.out; omega))
          have HB6 := hide (HBA.out.grown hgrow HBA.out.size (fun q hq => by have h1 := HNB.out _ hq; have h5 := HBN.out; omega))
          have HZ6 := hide (Nat.le_trans HSZ.out hgrow.size)
          have hg6 := (HO6.out.lt g' rfl).1
          clear hml HS hown hgrow hlt' HOA HGA HFA HRA HBA HSZ
          refine hK _ _ ?_
          simp only [Act.put, List.setIfInBounds_toArray, List.set_cons_succ, List.set_cons_zero]
          refine wpAnyX_last 11 (by kernel_rfl) (by simp; rfl) rfl rfl (by kernel_rfl) (fun K hK => ?_)
          go_wp2_with fail
          refine wpAnyX_last 12 (by kernel_rfl) (by simp; rfl) rfl rfl (by kernel_rfl) (fun K hK => ?_)
          have a1 := HG6.out.2.1 0 _ rfl
          have f1 := HG6.out.free 0
          have z1 := HG6.out.1
          go_wp2_with fail
          refine wpAnyX_done (by kernel_rfl) ?_ _
          go_wp2
          go_roundg (gk - 1)
          case rel =>
            refine ⟨k + 1, _, cap', by go_num, by omega, hide (by have := HGH.out; omega), HAT, hide ((HG6.out.set (by simp) _).cast rfl), hide (own_kept HO6.out (grown_set (g := B4) _ rfl) (fun q hq e => by injection e with e; have h1 := (HO6.out.lt q hq).1; have h2 := HLT.out; omega)), hide (HF6.out.grown (grown_set (g := B4) _ rfl) (fun e => by injection e with e; have h2 := HB4.out; omega)), hide (HR6.out.grown (grown_set (g := B4) _ rfl) (fun b off sp e e2 => by injection e with e; injection e with e3 e4 e5; injection e2 with e2; subst e3; have h2 := HLT.out; omega)), hide (HB6.out.setCell (by have h2 := HB4.out; simp; omega) _), hide (by have := HZ6.out; simpa using this)⟩
          case measure => have := HGH.out; omega
        · have HN := hide (HVB.out (by rw [HOK.out, hal, decide_eq_false h2]; rfl))
          have HBX := hide (below_step HB.out HX.out)
          have g2 : (n1 : Int) ≠ 2 := by omega
          have e0 := HFX.out.2.1 0 _ rfl
          have e1 := HFX.out.2.1 1 _ rfl
          have f0 := HFX.out.free 0
          have f1 := HFX.out.free 1
          clear hal hps HOK hn1 h2 hrd1
          go_wp2
          exact bodyPost_ret (v := .tuple #[.agg #[.slice none 0 0, .slice none 0 0], .bool false]) (by simp [results, Tryz.results47, go_sem, *]) rfl (NetOut.no HN.out ((HBX.out.setCell (by simp) _).setCell (by simp) _))
    · obtain rfl : k = n := by omega
      have HTA := hide (show L.all (wokI 47) = true by have h := HAL.out; rwa [List.take_of_length_le (by have := Hn.out; omega)] at h)
      have HTK := hide (show (L.take k).map (wvI 47) = L.map (wvI 47) by rw [List.take_of_length_le (by have := Hn.out; omega)])
      rw [HTK.out] at HO
      have HLM := hide (show k = (L.map (wvI 47)).length by rw [List.length_map]; exact Hn.out)
      clear HTK HAL HGH HRR HZ QN QW B1 Hn HF3 HG3 HR HB3
      have Hn := HLM
      rename World => wo
      go_wp2_with fail
      refine (Q4.out _ HB.out).mono ?_
      rintro e w4 ⟨⟨gx, m, rfl, hm, hgx, hrd⟩, hq⟩
      have HB5 := hide (below_step HB.out hq)
      have HF5 := hide (HFB.out.below hq)
      have HG5 := hide (HGB.out.below hq)
      have HO5 := hide (own_below HO.out hq)
      have Hm := hide hm
      have HR5 := hide hrd
      have hm2 : m ≤ 1048578 := by have := QM.out; omega
      have HLU := hide (show B4 < w4.heap.size ∧ B4 < gx ∧ gx < w4.heap.size from ⟨HG5.out.1, Nat.lt_of_lt_of_le HGB.out.1 hgx.1, hgx.2⟩)
      have HOL := hide (fun q hq => (HO5.out.lt q hq).2)
      clear hq hm hrd Q4 HFB HGB HO HB hgx QM
      generalize hN4 : w4.heap.size = N4 at HLU HOL
      have HZ5 := hide (Nat.le_of_eq hN4.symm)
      have HBM := hide (show w.heap.size ≤ N4 by have h1 := HLU.out; have h2 := HB4.out; omega)
      clear hN4
      generalize L.map (wvI 47) = M at *
      go_wp2_with fail
      go_loopg [59] m (fun g t wr => ∃ (kq : Nat) (Aq : Option Addr) (cq : Nat), t = .int .i64 (kq : Int) ∧ kq ≤ m ∧ Hid (m ≤ g + kq) ∧ Hid ((R.take kq).all (wokI 58) = true) ∧ Hid (Row wr B4 [.slice A k cap, .slice Aq kq cq]) ∧ Hid (wr.ownsRow N4 73 2 (.slice Aq kq cq) kq (((R.take kq).map (wvI 58)).flatMap mcells)) ∧ Hid (wr.ownsRow N3 36 2 (.slice A k cap) k (M.flatMap mcells)) ∧ Hid (Row wr w.heap.size [.slice none 0 0, .slice none 0 0]) ∧ Hid (Rd wr (some ⟨gx, 0, none⟩) (R.map Value.string)) ∧ Hid (Below w.heap.size w wr) ∧ Hid (N4 ≤ wr.heap.size))
      case atStart => exact ⟨0, none, 0, rfl, by omega, hide (by omega), hide rfl, HG5, hide (World.ownsRow_nil _ _ _ _), HO5, HF5, HR5, HB5, HZ5⟩
      case round =>
        obtain ⟨kq, Aq, cq, rfl, hk, HGH, HAL, HGB, HO, HOM, HFB, HRR, HB, HZ⟩ := hrel
        by_cases hlt : kq < m
        · obtain ⟨v, hv⟩ : ∃ v, R[kq]? = some v := ⟨_, List.getElem?_eq_getElem (by rw [← Hm.out]; exact hlt)⟩
          have hvm := List.mem_of_getElem? hv
          have hvz := QX.out v hvm
          obtain ⟨b, off, e1, hbs, c0⟩ := HRR.out.get1 (k := kq) (u := .string v) (by rw [List.getElem?_map, hv]; rfl)
          injection e1 with e1; injection e1 with e2 e3; subst e2; subst e3
          rw [Nat.zero_add] at c0
          have P1 := hide (readNumbers_any v 58 wr (by omega) (HE.out wr HB.out).txt)
          have HMT := hide (map_take_succ (wvI 58) hv)
          have HAS := hide (fun h => all_take_succ (wokI 58) hv HAL.out h)
          have HVB := hide (B2.out v hvm)
          have HOK : Hid (wokI 58 v = ((splitS v 58).all rnOk && decide ((splitS v 58).length = 2))) := hide rfl
          have HWV : Hid (wvI 58 v = (rnV ((splitS v 58).getD 0 ByteArray.empty), rnV ((splitS v 58).getD 1 ByteArray.empty))) := hide rfl
          generalize wvI 58 v = sv at *
          generalize wokI 58 v = kv at *
          unfold NumsPost at P1
          generalize splitS v 58 = ps at *
          clear hv hvm hvz
          go_wp2_with fail
          refine P1.out.mono ?_
          rintro e x1 ⟨⟨A1, n1, c1, rfl, hps⟩, hq⟩
          have HX := hide hq
          clear hq P1 c0
          have HFX := hide (HFB.out.below HX.out)
          cases hal : ps.all rnOk with
          | false =>
            have HN := hide (HVB.out (by rw [HOK.out, hal]; rfl))
            have HBX := hide (below_step HB.out HX.out)
            have e0 := HFX.out.2.1 0 _ rfl
            have e1 := HFX.out.2.1 1 _ rfl
            have f0 := HFX.out.free 0
            have f1 := HFX.out.free 1
            clear hal hps HOK
            go_wp2
            exact bodyPost_ret (v := .tuple #[.agg #[.slice none 0 0, .slice none 0 0], .bool false]) (by simp [results, Tryz.results47, go_sem, *]) rfl (NetOut.no HN.out ((HBX.out.setCell (by simp) _).setCell (by simp) _))
          | true =>
            obtain ⟨hn1, hrd1⟩ := hps hal
            by_cases h2 : ps.length = 2
            · obtain ⟨pa, pc, rfl⟩ : ∃ pa pc, ps = [pa, pc] := by
                match ps, h2 with
                | [a, c], _ => exact ⟨a, c, rfl⟩
              have HKV := hide (show kv = true by rw [HOK.out, hal]; rfl)
              have HAT := hide (HAS.out HKV.out)
              have HSV := hide (show sv = (rnV pa, rnV pc) from HWV.out)
              obtain rfl : n1 = 2 := by rw [hn1]; rfl
              obtain ⟨b1, off1, rfl, hbs1, d0⟩ := hrd1.get1 (k := 0) (u := .int .i64 (rnV pa)) rfl
              obtain ⟨b3, off3, e3, hbs3, d1⟩ := hrd1.get1 (k := 1) (u := .int .i64 (rnV pc)) rfl
              injection e3 with e3; injection e3 with e4 e5; subst e4; subst e5
              have d0 : x1.cell? ⟨b1, off1, none⟩ = some (.int .i64 (rnV pa)) := d0
              generalize rnV pa = y0 at *
              generalize rnV pc = y1 at *
              have HGX := hide (HGB.out.below HX.out)
              have HRX := hide (HRR.out.below HX.out)
              have HOX := hide (own_below HO.out HX.out)
              have HMX := hide (own_below HOM.out HX.out)
              have HBX := hide (below_step HB.out HX.out)
              have HZX := hide (Nat.le_trans HZ.out HX.out.size)
              have g1 := HGX.out.2.1 1 _ rfl
              have gz := HGX.out.1
              clear HX HB HRR HFB HGB HO HZ HVB HAS HOK HWV hal hps hn1 hrd1 h2 HKV HOM
              go_wp2_with fail
              refine wpAnyX_start (fun w' => ∃ n : Later x1, w' = n.w) [10, 12] (n := 13) (by kernel_rfl) rfl rfl ?_
              refine wpAnyX_take [0, 1, 2, 3, 4, 5, 6, 7, 8] 4 rfl (by kernel_rfl) (by intro c a d v w h; cases d <;> exact h) (by kernel_rfl) (by kernel_rfl) (by kernel_rfl) (by simp; rfl) rfl (later_drew _) ?_
              repeat (go_big_quiet_step (fail))
              refine wpQuiet_nil ?_
              clear g1 gz d0 d1
              have HX : Hid (Below x1.heap.size x1 x1.drew) := hide (Below.refl _ _).drew
              generalize x1.drew = V1 at *
              refine wpAnyX_only 9 (by kernel_rfl) (by simp; rfl) rfl rfl (fun K hK => ?_)
              go_wp2_with fail
              have HS := hide (Row.new V1 #[.int .i64 y0, .int .i64 y1] 73)
              replace HX := hide (below_alloc HX.out (.cells #[.int .i64 y0, .int .i64 y1] 73))
              refine ⟨later_of HX.out, ?_⟩
              generalize V1.alloc (.cells #[.int .i64 y0, .int .i64 y1] 73) = V5 at *
              generalize V1.heap.size = sb5 at *
              have HGA := hide (HGX.out.below HX.out)
              have HFA := hide (HFX.out.below HX.out)
              have HRA := hide (HRX.out.below HX.out)
              have HOA := hide (own_below HOX.out HX.out)
              have HMA := hide (own_below HMX.out HX.out)
              have HBA := hide (below_step HBX.out HX.out)
              have HSZ := hide (Nat.le_trans HZX.out HX.out.size)
              clear HGX HFX HRX HOX HBX HX HZX
              refine wpAnyX_last 10 (by kernel_rfl) (by simp; rfl) rfl rfl (by kernel_rfl) (fun K hK => ?_)
              have hml : maxLen = 9223372036854775807 := rfl
              refine wp_append_lies _ (.tmp 77) (.tmp 85) 25 rfl N4 73 j0 _ 2 16 Tryz.underlying25 Hj.out Hy.out.1 Hy.out.2.1 Hy.out.2.2 rfl (by decide) (.slice Aq kq cq) kq (((R.take kq).map (wvI 58)).flatMap mcells) rfl HOA.out ⟨sb5, 0, none⟩ 1 1 (mcells (y0, y1)) rfl rfl (fun q u hu => by rw [Addr.add_lit, Nat.zero_add]; exact HS.out.2.1 q u hu) (fun u hu => by simp [mcells] at hu; rcases hu with rfl | rfl <;> rfl) (by omega) (by omega) (by omega) HSZ.out V5.heap.size rfl (fun g' cap' w6 hown hgrow _ hlt' => ?_)
              have HO6 : Hid (w6.ownsRow N4 73 2 (.slice (some ⟨g', 0, none⟩) (kq + 1) cap') (kq + 1) (((R.take (kq + 1)).map (wvI 58)).flatMap mcells)) := hide (by rw [HMT.out, List.flatMap_append, HSV.out]; simpa using hown)
              have HNB := hide (fun q hq => (HOA.out.lt q hq).1)
              have HG6 := hide (HGA.out.grown hgrow (fun e => by have h1 := HNB.out _ e.symm; have h2 := HLU.out; omega))
              have HF6 := hide (HFA.out.grown hgrow (fun e => by have h1 := HNB.out _ e.symm; have h2 := HLU.out; have h3 := HB4.out; omega))
              have HR6 := hide (HRA.out.grown hgrow (fun b off sp e e2 => by injection e with e; injection e with e3 e4 e5; subst e3; have h1 := HNB.out _ e2.symm; have h2 := HLU.out; omega))
              have HM6 := hide (own_near HMA.out HOL.out hgrow (fun q hq => HNB.out q hq))
              have HB6 := hide (HBA.out.grown hgrow HBA.out.size (fun q hq => by have h1 := HNB.out _ hq; have h5 := HBM.out; omega))
              have HZ6 := hide (Nat.le_trans HSZ.out hgrow.size)
              have hg6 := (HO6.out.lt g' rfl).1
              clear hml HS hown hgrow hlt' HOA HGA HFA HRA HBA HSZ HMA HMX
              refine hK _ _ ?_
              simp only [Act.put, List.setIfInBounds_toArray, List.set_cons_succ, List.set_cons_zero]
              refine wpAnyX_last 11 (by kernel_rfl) (by simp; rfl) rfl rfl (by kernel_rfl) (fun K hK => ?_)
              go_wp2_with fail
              refine wpAnyX_last 12 (by kernel_rfl) (by simp; rfl) rfl rfl (by kernel_rfl) (fun K hK => ?_)
              have a1 := HG6.out.2.1 1 _ rfl
              have f1 := HG6.out.free 1
              have z1 := HG6.out.1
              go_wp2_with fail
              refine wpAnyX_done (by kernel_rfl) ?_ _
              go_wp2
              go_roundg (gk - 1)
              case rel =>
                refine ⟨kq + 1, _, cap', by go_num, by omega, hide (by have := HGH.out; omega), HAT, hide ((HG6.out.set (by simp) _).cast rfl), hide (own_kept HO6.out (grown_set (g := B4) _ rfl) (fun q hq e => by injection e with e; have h1 := (HO6.out.lt q hq).1; have h2 := HLU.out; omega)), hide (own_kept HM6.out (grown_set (g := B4) _ rfl) (fun q hq e => by injection e with e; have h1 := (HM6.out.lt q hq).1; have h2 := HLT.out; omega)), hide (HF6.out.grown (grown_set (g := B4) _ rfl) (fun e => by injection e with e; have h2 := HB4.out; omega)), hide (HR6.out.grown (grown_set (g := B4) _ rfl) (fun b off sp e e2 => by injection e with e; injection e with e3 e4 e5; injection e2 with e2; subst e3; have h2 := HLU.out; omega)), hide (HB6.out.setCell (by have h2 := HB4.out; simp; omega) _), hide (by have := HZ6.out; simpa using this)⟩
              case measure => have := HGH.out; omega
            · have HN := hide (HVB.out (by rw [HOK.out, hal, decide_eq_false h2]; rfl))
              have HBX := hide (below_step HB.out HX.out)
              have g2 : (n1 : Int) ≠ 2 := by omega
              have e0 := HFX.out.2.1 0 _ rfl
              have e1 := HFX.out.2.1 1 _ rfl
              have f0 := HFX.out.free 0
              have f1 := HFX.out.free 1
              clear hal hps HOK hn1 h2 hrd1
              go_wp2
              exact bodyPost_ret (v := .tuple #[.agg #[.slice none 0 0, .slice none 0 0], .bool false]) (by simp [results, Tryz.results47, go_sem, *]) rfl (NetOut.no HN.out ((HBX.out.setCell (by simp) _).setCell (by simp) _))
        · obtain rfl : kq = m := by omega
          have HTB := hide (show R.all (wokI 58) = true by have h := HAL.out; rwa [List.take_of_length_le (by have := Hm.out; omega)] at h)
          have HTK := hide (show (R.take kq).map (wvI 58) = R.map (wvI 58) by rw [List.take_of_length_le (by have := Hm.out; omega)])
          rw [HTK.out] at HO
          have HLM := hide (show kq = (R.map (wvI 58)).length by rw [List.length_map]; exact Hm.out)
          have HFL := hide (HGD.out HTA.out HTB.out)
          clear HTK HAL HGH HRR HZ QX B2 Hm HF5 HG5 HR5 HB5 HTA HTB HGD HO5
          generalize R.map (wvI 58) = H at *
          have QT := hide (implisNet_any B4 A Aq k cap kq cq M H wr Hn.out HLM.out (by unfold maxLen; omega) (by unfold maxLen; omega) ⟨own_rd HOM.out, own_rd HO.out⟩ (HGB.out.2.1 0 _ rfl) (HGB.out.2.1 1 _ rfl))
          cases hb : netB M H with
          | false =>
            have HN := hide (show o = none by rw [HFL.out, hb]; rfl)
            rw [hb] at QT
            clear hb
            go_wp2_with fail
            refine QT.out.mono ?_
            rintro e w5 ⟨rfl, hq⟩
            have HB6 := hide (below_step HB.out hq)
            have HF6 := hide (HFB.out.below hq)
            have e0 := HF6.out.2.1 0 _ rfl
            have e1 := HF6.out.2.1 1 _ rfl
            have f0 := HF6.out.free 0
            have f1 := HF6.out.free 1
            clear hq QT
            go_wp2
            exact bodyPost_ret (v := .tuple #[.agg #[.slice none 0 0, .slice none 0 0], .bool false]) (by simp [results, Tryz.results47, go_sem, *]) rfl (NetOut.no HN.out ((HB6.out.setCell (by simp) _).setCell (by simp) _))
          | true =>
            have HKK := hide (netB_ok hb)
            rw [hb] at QT HFL
            clear hb
            go_wp2_with fail
            refine QT.out.mono ?_
            rintro e w5 ⟨rfl, hq⟩
            have HB6 := hide (below_step HB.out hq)
            have HF6 := hide (HFB.out.below hq)
            have HG6 := hide (HGB.out.below hq)
            have HO6 := hide (own_below HO.out hq)
            have HM6 := hide (own_below HOM.out hq)
            clear hq QT HB HFB HGB HO HOM
            have QX := hide (netText_any B4 k cap kq cq A Aq M H w5 Hn.out HLM.out HKK.out ⟨own_rd HM6.out, own_rd HO6.out⟩ (HG6.out.2.1 0 _ rfl) (HG6.out.2.1 1 _ rfl) (HE.out _ HB6.out).txt.num.tab)
            generalize nxT M H = x at *
            go_wp2_with fail
            refine QX.out.mono ?_
            rintro e w6 ⟨rfl, hq⟩
            have HB7 := hide (below_step HB6.out hq)
            have HF7 := hide (HF6.out.below hq)
            have HG7 := hide (HG6.out.below hq)
            have HO7 := hide (own_below HO6.out hq)
            have HM7 := hide (own_below HM6.out hq)
            have e0 := HF7.out.2.1 0 _ rfl
            have e1 := HF7.out.2.1 1 _ rfl
            have f0 := HF7.out.free 0
            have f1 := HF7.out.free 1
            have d0 := HG7.out.2.1 0 _ rfl
            have d1 := HG7.out.2.1 1 _ rfl
            clear hq QX HB6 HF6 HG6 HO6 HM6
            by_cases hx : x = s
            · subst hx
              have HS := hide (show o = some (M, H) by rw [HFL.out]; simp)
              have HOE := hide (own_le (B' := w.heap.size) HO7.out HBM.out)
              have HME := hide (own_le (B' := w.heap.size) HM7.out HBN.out)
              have HK1 : Hid (∀ (W : World) (o1 : Nat) (u : Value), W.ownsRow w.heap.size 73 2 (.slice Aq kq cq) kq (H.flatMap mcells) → (W.setCell ⟨w.heap.size, o1, none⟩ u).ownsRow w.heap.size 73 2 (.slice Aq kq cq) kq (H.flatMap mcells)) := hide (fun W o1 u h => own_kept h (grown_set (g := w.heap.size) u rfl) (fun q hq e => by injection e with e; have h1 := (HO7.out.lt q hq).1; have h2 := HLU.out; have h3 := HB4.out; omega))
              have HK2 : Hid (∀ (W : World) (o1 : Nat) (u : Value), W.ownsRow w.heap.size 36 2 (.slice A k cap) k (M.flatMap mcells) → (W.setCell ⟨w.heap.size, o1, none⟩ u).ownsRow w.heap.size 36 2 (.slice A k cap) k (M.flatMap mcells)) := hide (fun W o1 u h => own_kept h (grown_set (g := w.heap.size) u rfl) (fun q hq e => by injection e with e; have h1 := (HM7.out.lt q hq).1; have h2 := HLT.out; have h3 := HB4.out; omega))
              clear HO7 HM7
              go_wp2
              exact bodyPost_ret (v := .tuple #[.agg #[.slice A k cap, .slice Aq kq cq], .bool true]) (by simp [results, Tryz.results47, go_sem, *]) rfl (NetOut.yes HS.out (by rw [← Hn.out]; exact HK2.out _ _ _ (HK2.out _ _ _ HME.out)) (by rw [← HLM.out]; exact HK1.out _ _ _ (HK1.out _ _ _ HOE.out)) ((HB7.out.setCell (by simp) _).setCell (by simp) _))
            · have HN := hide (show o = none by rw [HFL.out]; simp [hx])
              have hne := texts_ne hx
              clear hx
              go_wp2
              exact bodyPost_ret (v := .tuple #[.agg #[.slice none 0 0, .slice none 0 0], .bool false]) (by simp [results, Tryz.results47, go_sem, *]) rfl (NetOut.no HN.out ((HB7.out.setCell (by simp) _).setCell (by simp) _))
end Go.Proofs.YtfcpgpmhjadanaaGreatDoor
namespace Go.Proofs.YtfcpgpmhjadanaaGreatDoor
open Go.RowKit
set_option linter.unusedVariables false

set_option maxHeartbeats 4000000 in
theorem implParseNet_any (s : ByteArray) (w : World) (hs : s.size ≤ 1048576) (he : WrdEnv w) :
    Calls Tryz.prog 19 #[.string s] w (NetOut (pnI s) w) := by
  have HF0 := hide (Row.new w #[.slice none 0 0, .slice none 0 0] 27)
  have H0 := hide (below_alloc (Below.refl w.heap.size w) (.cells #[.slice none 0 0, .slice none 0 0] 27))
  have Q := hide (parseNet_any s (w.alloc (.cells #[.slice none 0 0, .slice none 0 0] 27)) hs (he.below H0.out))
  generalize pnI s = o at *
  clear he
  go_enter Tryz.func19, Tryz.ntmps19
  go_wp2_with fail
  refine Q.out.mono ?_
  rintro e w1 ⟨⟨v, v', rfl, ho, ho'⟩, hq⟩
  have HB := hide (below_step H0.out hq)
  have HF := hide (HF0.out.below hq)
  have HLQ := hide (fun q hq => (ho.lt q hq).1)
  have HLR := hide (fun q hq => (ho'.lt q hq).1)
  have HO := hide (own_le (B' := w.heap.size) ho (by simp))
  have HP := hide (own_le (B' := w.heap.size) ho' (by simp))
  have HK1 : Hid (∀ (W : World) (o1 : Nat) (u : Value), W.ownsRow w.heap.size 36 2 v (outM o).length ((outM o).flatMap mcells) → (W.setCell ⟨w.heap.size, o1, none⟩ u).ownsRow w.heap.size 36 2 v (outM o).length ((outM o).flatMap mcells)) := hide (fun W o1 u h => own_kept h (grown_set (g := w.heap.size) u rfl) (fun q hq e => by injection e with e; have h1 := HLQ.out q hq; simp at h1; omega))
  have HK2 : Hid (∀ (W : World) (o1 : Nat) (u : Value), W.ownsRow w.heap.size 73 2 v' (outY o).length ((outY o).flatMap mcells) → (W.setCell ⟨w.heap.size, o1, none⟩ u).ownsRow w.heap.size 73 2 v' (outY o).length ((outY o).flatMap mcells)) := hide (fun W o1 u h => own_kept h (grown_set (g := w.heap.size) u rfl) (fun q hq e => by injection e with e; have h1 := HLR.out q hq; simp at h1; omega))
  obtain ⟨A, cap, rfl, -⟩ := own_open ho
  obtain ⟨B, cap', rfl, -⟩ := own_open ho'
  have e0 := HF.out.2.1 0 _ rfl
  have e1 := HF.out.2.1 1 _ rfl
  have f0 := HF.out.free 0
  have f1 := HF.out.free 1
  clear hq ho ho' Q HF0 H0 HLQ HLR
  generalize hn : outM o = M at *
  generalize hl : outY o = H at *
  generalize hb : o.isSome = b at *
  have HN := hide (And.intro hn (And.intro hl hb))
  clear hn hl hb
  go_wp2
  exact bodyPost_ret (v := .tuple #[.agg #[.slice A M.length cap, .slice B H.length cap'], .bool b]) (by simp [results, Tryz.results19, go_sem, *]) rfl ⟨⟨_, _, by rw [HN.out.2.2], by rw [HN.out.1, HN.out.2.1]; exact ⟨HK1.out _ _ _ (HK1.out _ _ _ HO.out), HK2.out _ _ _ (HK2.out _ _ _ HP.out)⟩⟩, (HB.out.setCell (by simp) _).setCell (by simp) _⟩
end Go.Proofs.YtfcpgpmhjadanaaGreatDoor
namespace Go.Proofs.YtfcpgpmhjadanaaGreatDoor
open Go.RowKit
set_option linter.unusedVariables false

end Go.Proofs.YtfcpgpmhjadanaaGreatDoor
namespace Go.Proofs.YtfcpgpmhjadanaaGreatDoor
open Go.RowKit
set_option linter.unusedVariables false

end Go.Proofs.YtfcpgpmhjadanaaGreatDoor
namespace Go.Proofs.YtfcpgpmhjadanaaGreatDoor
open Go.RowKit
set_option linter.unusedVariables false

/-- Rows of two kinds lie in two blocks. -/
theorem own_two {w : World} {B n m sz sz' : Nat} {v v' : Value} {xs ys : List Value} (h : w.ownsRow B 36 sz v n xs) (h' : w.ownsRow B 73 sz' v' m ys) : ∀ k q, v.ownBlock = some k → v'.ownBlock = some q → k ≠ q := by
  intro k q hk hq e
  subst e
  rcases h.2 with ⟨rfl, _⟩ | ⟨g, cap, cur, rfl, _, hg, _⟩
  · simp [Value.ownBlock] at hk
  · rcases h'.2 with ⟨rfl, _⟩ | ⟨g', cap', cur', rfl, _, hg', _⟩
    · simp [Value.ownBlock] at hq
    · simp only [Value.ownBlock, Option.some.injEq] at hk hq
      subst hk hq
      rw [hg] at hg'
      injection hg' with hg'
      injection hg' with _ ht
      revert ht
      decide

end Go.Proofs.YtfcpgpmhjadanaaGreatDoor
namespace Go.Proofs.YtfcpgpmhjadanaaGreatDoor
open Go.RowKit
set_option linter.unusedVariables false

theorem pnS_no1 {s : ByteArray} (h : 300 < s.size) : pnS s = none := by rw [pnS, decide_eq_false (by omega)]; rfl
theorem pnS_no2 {s : ByteArray} (h : 21 < (splitS s 32).length) : pnS s = none := by
  rw [pnS, decide_eq_false (show ¬ (splitS s 32).length ≤ 21 by omega)]
  simp
theorem pnS_eq {s : ByteArray} (h1 : s.size ≤ 300) (h2 : (splitS s 32).length ≤ 21) : pnS s = if netB (pnRun (splitS s 32)).M (pnRun (splitS s 32)).H && decide (nxT (pnRun (splitS s 32)).M (pnRun (splitS s 32)).H = s) then some ((pnRun (splitS s 32)).M, (pnRun (splitS s 32)).H) else none := by
  rw [pnS, decide_eq_true h1, decide_eq_true h2]
  rfl
theorem run_succ {L : List ByteArray} {k : Nat} {v : ByteArray} (h : L[k]? = some v) : pnRun (L.take (k + 1)) = pnStep (pnRun (L.take k)) v := by
  rw [pnRun, List.take_add_one, h, List.foldl_append]; rfl
theorem step_bar (st : PnSt) : pnStep st ⟨#[124]⟩ = ⟨true, st.M, st.H⟩ := by rw [pnStep, if_pos rfl]
theorem step_hyd {st : PnSt} {v : ByteArray} (h : v ≠ ⟨#[124]⟩) (hh : st.h = true) : pnStep st v = ⟨true, st.M, st.H ++ [pairS 58 v]⟩ := by
  rw [pnStep, if_neg h, if_pos hh]
  cases st
  simp only at hh
  rw [hh]
theorem step_main {st : PnSt} {v : ByteArray} (h : v ≠ ⟨#[124]⟩) (hh : st.h = false) : pnStep st v = ⟨false, st.M ++ [pairS 47 v], st.H⟩ := by
  rw [pnStep, if_neg h, if_neg (by rw [hh]; decide)]
  cases st
  simp only at hh
  rw [hh]

set_option maxRecDepth 100000 in
set_option maxHeartbeats 8000000 in
theorem specParseNet_any (s : ByteArray) (w : World) (hs : s.size ≤ 1048576) :
    Calls Tryz.prog 20 #[.string s] w (NetOut (pnS s) w) := by
  obtain ⟨i0, hi0, hz0, hz1, hz2⟩ := info_parts infoMainP
  have Hi := hide hi0
  have Hz := hide (And.intro hz0 (And.intro hz1 hz2))
  clear hi0 hz0 hz1 hz2
  obtain ⟨j0, hi0, hz0, hz1, hz2⟩ := info_parts infoHydP
  have Hj := hide hi0
  have Hy := hide (And.intro hz0 (And.intro hz1 hz2))
  clear hi0 hz0 hz1 hz2
  have Q := hide (fun W => split_any s 32 W (by omega))
  have HF0 := hide (Row.new w #[.slice none 0 0, .slice none 0 0] 27)
  have H0 := hide (below_alloc (Below.refl w.heap.size w) (.cells #[.slice none 0 0, .slice none 0 0] 27))
  have QW := hide (fun (v : ByteArray) (hv : v ∈ splitS s 32) => Nat.le_trans (splitS_size _ _ hv) hs)
  have QN := hide (splitS_len s 32)
  have N1 := hide (fun h => pnS_no1 (s := s) h)
  have N2 := hide (fun h => pnS_no2 (s := s) h)
  have N4 := hide (fun h1 h2 => pnS_eq (s := s) h1 h2)
  generalize pnS s = o at *
  generalize splitS s 32 = L at *
  go_enter Tryz.func20, Tryz.ntmps20
  go_wp2_with fail
  refine (Q.out _).mono ?_
  rintro e w1 ⟨⟨v, rfl, ho⟩, hq⟩
  obtain ⟨A0, c0, rfl, hrd, -⟩ := own_open ho
  have HR := hide hrd
  have HB := hide (below_step H0.out hq)
  have HF := hide (HF0.out.below hq)
  have HOW := hide ho
  obtain ⟨n, hn⟩ : ∃ n, n = L.length := ⟨_, rfl⟩
  rw [← hn]
  have Hn := hide hn
  have hnz : n ≤ s.size + 1 := by have := QN.out; omega
  clear hq ho hrd Q H0 HF0 hn QN
  by_cases h1 : 300 < s.size
  · have HN := hide (N1.out h1)
    have g1 : (300 : Int) < (s.size : Int) := by omega
    have e0 := HF.out.2.1 0 _ rfl
    have e1 := HF.out.2.1 1 _ rfl
    have f0 := HF.out.free 0
    have f1 := HF.out.free 1
    clear h1 N1 N2 N4
    go_wp2
    exact bodyPost_ret (v := .tuple #[.agg #[.slice none 0 0, .slice none 0 0], .bool false]) (by simp [results, Tryz.results20, go_sem, *]) rfl (NetOut.no HN.out ((HB.out.setCell (by simp) _).setCell (by simp) _))
  · have g1 : ¬ (300 : Int) < (s.size : Int) := by omega
    by_cases h2 : 21 < n
    · have HN := hide (N2.out (by have := Hn.out; omega))
      have g2 : (21 : Int) < (n : Int) := by omega
      have e0 := HF.out.2.1 0 _ rfl
      have e1 := HF.out.2.1 1 _ rfl
      have f0 := HF.out.free 0
      have f1 := HF.out.free 1
      clear h1 h2 N1 N2 N4
      go_wp2
      exact bodyPost_ret (v := .tuple #[.agg #[.slice none 0 0, .slice none 0 0], .bool false]) (by simp [results, Tryz.results20, go_sem, *]) rfl (NetOut.no HN.out ((HB.out.setCell (by simp) _).setCell (by simp) _))
    · have g2 : ¬ (21 : Int) < (n : Int) := by omega
      have HV := hide (N4.out (by omega) (by have := Hn.out; omega))
      have hn21 : n ≤ 21 := by omega
      clear h1 h2 N1 N2 N4 hnz
      have HT0 := hide (Row.new w1 #[.slice none 0 0, .slice none 0 0] 27)
      have HFA := hide (HF.out.alloc (.cells #[.slice none 0 0, .slice none 0 0] 27))
      have HRA := hide (HR.out.alloc (.cells #[.slice none 0 0, .slice none 0 0] 27))
      have HBA := hide (below_alloc HB.out (.cells #[.slice none 0 0, .slice none 0 0] 27))
      have HTW := hide (show w.heap.size < w1.heap.size from HF.out.1)
      have HAL := hide (fun b off sp (e : A0 = some ⟨b, off, sp⟩) => show b < w1.heap.size by
        have h := own_open HOW.out
        obtain ⟨A', c', hv, -, -, -, -, h7⟩ := h
        injection hv with hv1
        exact (h7 b off sp (hv1 ▸ e)).2.2.2.1)
      have e0 := HT0.out.2.1 0 _ rfl
      clear HF HR HB HOW e0
      go_wp2_with fail
      generalize hW : w1.alloc (.cells #[.slice none 0 0, .slice none 0 0] 27) = W1 at *
      have HSZ := hide (show W1.heap.size = w1.heap.size + 1 by rw [← hW]; simp)
      clear hW
      generalize w1.heap.size = tb at *
      obtain ⟨N3, hN3⟩ : ∃ N3, N3 = tb + 1 := ⟨_, rfl⟩
      have HN3 := hide hN3
      have HZ0 := hide (show N3 ≤ W1.heap.size by rw [HSZ.out, hN3]; exact Nat.le_refl _)
      clear hN3 HSZ
      go_loopg [27, 6] n (fun g t b wr => ∃ (k : Nat) (st : PnSt) (A B : Option Addr) (ca cb : Nat), t = .int .i64 (k : Int) ∧ b = .bool st.h ∧ k ≤ n ∧ Hid (n ≤ g + k) ∧ Hid (st = pnRun (L.take k)) ∧ st.M.length ≤ k ∧ st.H.length ≤ k ∧ Hid (Row wr tb [.slice A st.M.length ca, .slice B st.H.length cb]) ∧ Hid (wr.ownsRow N3 36 2 (.slice A st.M.length ca) st.M.length (st.M.flatMap mcells)) ∧ Hid (wr.ownsRow N3 73 2 (.slice B st.H.length cb) st.H.length (st.H.flatMap mcells)) ∧ Hid (Row wr w.heap.size [.slice none 0 0, .slice none 0 0]) ∧ Hid (Rd wr A0 (strV L)) ∧ Hid (Below w.heap.size w wr) ∧ Hid (N3 ≤ wr.heap.size))
      case atStart => exact ⟨0, ⟨false, [], []⟩, none, none, 0, 0, rfl, rfl, by omega, hide (by omega), hide rfl, Nat.le_refl _, Nat.le_refl _, HT0, hide (World.ownsRow_nil _ _ _ _), hide (World.ownsRow_nil _ _ _ _), HFA, HRA, HBA, HZ0⟩
      case round =>
        obtain ⟨k, ⟨h, M, H⟩, A, B, ca, cb, rfl, rfl, hk, HGH, HST, hML, hHL, HGB, HO, HP, HFB, HRR, HB, HZ⟩ := hrel
        dsimp only at hML hHL HGB HO HP ⊢
        by_cases hlt : k < n
        · obtain ⟨v, hv⟩ : ∃ v, L[k]? = some v := ⟨_, List.getElem?_eq_getElem (by rw [← Hn.out]; exact hlt)⟩
          have hvm := List.mem_of_getElem? hv
          have hvz := QW.out v hvm
          have HRS := hide (run_succ hv)
          obtain ⟨b, off, rfl, hbs, c0⟩ := HRR.out.get1 (k := k) (u := .string v) (strV_at hv)
          have HBT := hide (HAL.out b off none rfl)
          by_cases hbar : v = ⟨#[124]⟩
          · subst hbar
            have HS1 := hide (show (⟨true, M, H⟩ : PnSt) = pnRun (L.take (k + 1)) by rw [HRS.out, ← HST.out, step_bar])
            clear hv hvm hvz
            go_wp2
            go_roundg (gk - 1)
            case rel => exact ⟨k + 1, ⟨true, M, H⟩, A, B, ca, cb, by go_num, rfl, by omega, hide (by have := HGH.out; omega), HS1, by dsimp only; omega, by dsimp only; omega, HGB, HO, HP, HFB, HRR, HB, HZ⟩
            case measure => have := HGH.out; omega
          · have hne := texts_ne hbar
            have hne2 : (v.toList == [124]) = false := by
              rw [ByteArray.toList_eq, beq_eq_false_iff_ne]
              exact fun e => hbar (bytes_eq e)
            have HML := hide hML
            have HHL := hide hHL
            cases h with
            | true =>
              have P1 := hide (hyPair_any v 58 wr (by omega))
              have HS1 := hide (show (⟨true, M, H ++ [pairS 58 v]⟩ : PnSt) = pnRun (L.take (k + 1)) by rw [HRS.out, ← HST.out, step_hyd hbar rfl])
              clear hv hvm hvz hbar hML hHL
              generalize pairS 58 v = pr at *
              obtain ⟨y0, y1⟩ := pr
              dsimp only at P1
              go_wp2_with fail
              refine P1.out.mono ?_
              rintro e x1 ⟨rfl, hq⟩
              have HX := hide hq
              clear hq P1 c0
              have HGX := hide (HGB.out.below HX.out)
              have HFX := hide (HFB.out.below HX.out)
              have HRX := hide (HRR.out.below HX.out)
              have HOX := hide (own_below HO.out HX.out)
              have HPX := hide (own_below HP.out HX.out)
              have HBX := hide (below_step HB.out HX.out)
              have HX0 := hide HX.out.size
              clear HX HGB HFB HRR HO HP HB
              have HGA := hide (HGX.out.alloc (.cells #[.int .i64 y0, .int .i64 y1] 73))
              have HFA := hide (HFX.out.alloc (.cells #[.int .i64 y0, .int .i64 y1] 73))
              have HRA := hide (HRX.out.alloc (.cells #[.int .i64 y0, .int .i64 y1] 73))
              have HOA := hide (World.ownsRow.alloc HOX.out (.cells #[.int .i64 y0, .int .i64 y1] 73))
              have HPA := hide (World.ownsRow.alloc HPX.out (.cells #[.int .i64 y0, .int .i64 y1] 73))
              have HSB := hide (Row.new x1 #[.int .i64 y0, .int .i64 y1] 73)
              have HBW := hide (below_alloc HBX.out (.cells #[.int .i64 y0, .int .i64 y1] 73))
              have HSZ := hide (show N3 ≤ (x1.alloc (.cells #[.int .i64 y0, .int .i64 y1] 73)).heap.size from Nat.le_trans HZ.out (Nat.le_trans HX0.out (by simp)))
              have a1 := HGX.out.2.1 1 _ rfl
              have z1 := HGX.out.1
              have hlen : H.length ≤ 20 := by have h1 := HML.out; have h2 := HHL.out; omega
              clear HGX HFX HRX HOX HPX HBX HZ
              go_wp2_with (at_builtin; refine wpList_append_any rfl (.tmp 55) (.tmp 59) 25 rfl N3 73 j0 _ 2 16 Tryz.underlying25 Hj.out Hy.out.1 Hy.out.2.1 Hy.out.2.2 rfl (by decide) (.slice B H.length cb) H.length (H.flatMap mcells) rfl HPA.out (some ⟨x1.heap.size, 0, none⟩) 1 1 (mcells (y0, y1)) rfl rfl (fun e => by cases e) (fun ad e j u hu => by cases e; rw [Addr.add_lit, Nat.zero_add]; exact HSB.out.2.1 j u hu) (fun u hu => by simp [mcells] at hu; rcases hu with rfl | rfl <;> rfl) (by unfold maxLen; omega) (by omega) HSZ.out ?_)
              intro v6 w6 hown hgrow
              have HNB := hide (fun q hq => (HPA.out.lt q hq).1)
              have HN6 := hide (show w6.ownsRow N3 73 2 v6 (H ++ [(y0, y1)]).length ((H ++ [(y0, y1)]).flatMap mcells) by rw [List.flatMap_append, List.length_append]; simpa using hown)
              have HE6 := hide (own_kept HOA.out hgrow (fun q hq e => own_two HOA.out HPA.out q _ hq e.symm rfl))
              have HG6 := hide (HGA.out.grown hgrow (fun e => by have h1 := HNB.out _ e.symm; have h2 := HN3.out; omega))
              have HF6 := hide (HFA.out.grown hgrow (fun e => by have h1 := HNB.out _ e.symm; have h2 := HN3.out; have h3 := HTW.out; omega))
              have HR6 := hide (HRA.out.grown hgrow (fun b off sp e e2 => by injection e with e; injection e with e3 e4 e5; subst e3; have h1 := HNB.out _ e2.symm; have h2 := HN3.out; have h3 := HBT.out; omega))
              have HB6 := hide (HBW.out.grown hgrow HBW.out.size (fun q hq => by have h1 := HNB.out _ hq; have h2 := HN3.out; have h3 := HTW.out; omega))
              have HZ6 := hide (Nat.le_trans HSZ.out hgrow.size)
              have HLN := hide (show (H ++ [(y0, y1)]).length = H.length + 1 by simp)
              clear hown hgrow HOA HPA HGA HFA HRA HBW HSB HSZ a1 z1
              obtain ⟨A6, c6, rfl, -⟩ := own_open HN6.out
              have a1 := HG6.out.2.1 1 _ rfl
              have f1 := HG6.out.free 1
              have z1 := HG6.out.1
              generalize hLL : H ++ [(y0, y1)] = LL at *
              clear hLL
              go_wp2
              go_roundg (gk - 1)
              case rel =>
                refine ⟨k + 1, ⟨true, M, LL⟩, A, A6, ca, c6, by go_num, rfl, by omega, hide (by have := HGH.out; omega), HS1, by dsimp only; have h1 := HML.out; have h2 := HLN.out; omega, by dsimp only; have h1 := HHL.out; have h2 := HLN.out; omega, hide ((HG6.out.set (by simp) _).cast rfl), hide (own_kept HE6.out (grown_set (g := tb) _ rfl) (fun q hq e => by injection e with e; have h1 := (HE6.out.lt q hq).1; have h2 := HN3.out; omega)), hide (own_kept HN6.out (grown_set (g := tb) _ rfl) (fun q hq e => by injection e with e; have h1 := (HN6.out.lt q hq).1; have h2 := HN3.out; omega)), hide (HF6.out.grown (grown_set (g := tb) _ rfl) (fun e => by injection e with e; have h2 := HTW.out; omega)), hide (HR6.out.grown (grown_set (g := tb) _ rfl) (fun b off sp e e2 => by injection e with e; injection e with e3 e4 e5; injection e2 with e2; subst e3; have h2 := HBT.out; omega)), hide (HB6.out.setCell (by have h2 := HTW.out; simp; omega) _), hide (by have := HZ6.out; simpa using this)⟩
              case measure => have := HGH.out; omega
            | false =>
              have P1 := hide (hyPair_any v 47 wr (by omega))
              have HS1 := hide (show (⟨false, M ++ [pairS 47 v], H⟩ : PnSt) = pnRun (L.take (k + 1)) by rw [HRS.out, ← HST.out, step_main hbar rfl])
              clear hv hvm hvz hbar hML hHL
              generalize pairS 47 v = pr at *
              obtain ⟨y0, y1⟩ := pr
              dsimp only at P1
              go_wp2_with fail
              refine P1.out.mono ?_
              rintro e x1 ⟨rfl, hq⟩
              have HX := hide hq
              clear hq P1 c0
              have HGX := hide (HGB.out.below HX.out)
              have HFX := hide (HFB.out.below HX.out)
              have HRX := hide (HRR.out.below HX.out)
              have HOX := hide (own_below HO.out HX.out)
              have HPX := hide (own_below HP.out HX.out)
              have HBX := hide (below_step HB.out HX.out)
              have HX0 := hide HX.out.size
              clear HX HGB HFB HRR HO HP HB
              have HGA := hide (HGX.out.alloc (.cells #[.int .i64 y0, .int .i64 y1] 36))
              have HFA := hide (HFX.out.alloc (.cells #[.int .i64 y0, .int .i64 y1] 36))
              have HRA := hide (HRX.out.alloc (.cells #[.int .i64 y0, .int .i64 y1] 36))
              have HOA := hide (World.ownsRow.alloc HOX.out (.cells #[.int .i64 y0, .int .i64 y1] 36))
              have HPA := hide (World.ownsRow.alloc HPX.out (.cells #[.int .i64 y0, .int .i64 y1] 36))
              have HSB := hide (Row.new x1 #[.int .i64 y0, .int .i64 y1] 36)
              have HBW := hide (below_alloc HBX.out (.cells #[.int .i64 y0, .int .i64 y1] 36))
              have HSZ := hide (show N3 ≤ (x1.alloc (.cells #[.int .i64 y0, .int .i64 y1] 36)).heap.size from Nat.le_trans HZ.out (Nat.le_trans HX0.out (by simp)))
              have a1 := HGX.out.2.1 0 _ rfl
              have z1 := HGX.out.1
              have hlen : M.length ≤ 20 := by have h1 := HML.out; have h2 := HHL.out; omega
              clear HGX HFX HRX HOX HPX HBX HZ
              go_wp2_with (at_builtin; refine wpList_append_any rfl (.tmp 37) (.tmp 41) 24 rfl N3 36 i0 _ 2 16 Tryz.underlying24 Hi.out Hz.out.1 Hz.out.2.1 Hz.out.2.2 rfl (by decide) (.slice A M.length ca) M.length (M.flatMap mcells) rfl HOA.out (some ⟨x1.heap.size, 0, none⟩) 1 1 (mcells (y0, y1)) rfl rfl (fun e => by cases e) (fun ad e j u hu => by cases e; rw [Addr.add_lit, Nat.zero_add]; exact HSB.out.2.1 j u hu) (fun u hu => by simp [mcells] at hu; rcases hu with rfl | rfl <;> rfl) (by unfold maxLen; omega) (by omega) HSZ.out ?_)
              intro v6 w6 hown hgrow
              have HNB := hide (fun q hq => (HOA.out.lt q hq).1)
              have HN6 := hide (show w6.ownsRow N3 36 2 v6 (M ++ [(y0, y1)]).length ((M ++ [(y0, y1)]).flatMap mcells) by rw [List.flatMap_append, List.length_append]; simpa using hown)
              have HE6 := hide (own_kept HPA.out hgrow (fun q hq e => own_two HOA.out HPA.out _ q e.symm hq rfl))
              have HG6 := hide (HGA.out.grown hgrow (fun e => by have h1 := HNB.out _ e.symm; have h2 := HN3.out; omega))
              have HF6 := hide (HFA.out.grown hgrow (fun e => by have h1 := HNB.out _ e.symm; have h2 := HN3.out; have h3 := HTW.out; omega))
              have HR6 := hide (HRA.out.grown hgrow (fun b off sp e e2 => by injection e with e; injection e with e3 e4 e5; subst e3; have h1 := HNB.out _ e2.symm; have h2 := HN3.out; have h3 := HBT.out; omega))
              have HB6 := hide (HBW.out.grown hgrow HBW.out.size (fun q hq => by have h1 := HNB.out _ hq; have h2 := HN3.out; have h3 := HTW.out; omega))
              have HZ6 := hide (Nat.le_trans HSZ.out hgrow.size)
              have HLN := hide (show (M ++ [(y0, y1)]).length = M.length + 1 by simp)
              clear hown hgrow HOA HPA HGA HFA HRA HBW HSB HSZ a1 z1
              obtain ⟨A6, c6, rfl, -⟩ := own_open HN6.out
              have a1 := HG6.out.2.1 0 _ rfl
              have f1 := HG6.out.free 0
              have z1 := HG6.out.1
              generalize hLL : M ++ [(y0, y1)] = LL at *
              clear hLL
              go_wp2
              go_roundg (gk - 1)
              case rel =>
                refine ⟨k + 1, ⟨false, LL, H⟩, A6, B, c6, cb, by go_num, rfl, by omega, hide (by have := HGH.out; omega), HS1, by dsimp only; have h1 := HML.out; have h2 := HLN.out; omega, by dsimp only; have h1 := HHL.out; have h2 := HLN.out; omega, hide ((HG6.out.set (by simp) _).cast rfl), hide (own_kept HN6.out (grown_set (g := tb) _ rfl) (fun q hq e => by injection e with e; have h1 := (HN6.out.lt q hq).1; have h2 := HN3.out; omega)), hide (own_kept HE6.out (grown_set (g := tb) _ rfl) (fun q hq e => by injection e with e; have h1 := (HE6.out.lt q hq).1; have h2 := HN3.out; omega)), hide (HF6.out.grown (grown_set (g := tb) _ rfl) (fun e => by injection e with e; have h2 := HTW.out; omega)), hide (HR6.out.grown (grown_set (g := tb) _ rfl) (fun b off sp e e2 => by injection e with e; injection e with e3 e4 e5; injection e2 with e2; subst e3; have h2 := HBT.out; omega)), hide (HB6.out.setCell (by have h2 := HTW.out; simp; omega) _), hide (by have := HZ6.out; simpa using this)⟩
              case measure => have := HGH.out; omega
        · obtain rfl : k = n := by omega
          have HTK := hide (show (⟨h, M, H⟩ : PnSt) = pnRun L by rw [HST.out, List.take_of_length_le (by have := Hn.out; omega)])
          have HFL := hide (show o = if netB M H && decide (nxT M H = s) then some (M, H) else none by rw [HV.out, ← HTK.out])
          have QT := hide (fun W (hb : Below wr.heap.size wr W) => hyGood_any A B M.length ca H.length cb M H W rfl rfl (by unfold maxLen; omega) (by unfold maxLen; omega) ⟨(own_rd HO.out).below hb, (own_rd HP.out).below hb⟩)
          have d0 := HGB.out.2.1 0 _ rfl
          have d1 := HGB.out.2.1 1 _ rfl
          have z1 := HGB.out.1
          clear HST HRR HV QW HTK HAL
          generalize hml : M.length = lm at *
          generalize hhl : H.length = lh at *
          have HLM := hide hml
          have HLH := hide hhl
          clear hml hhl
          cases hb : netB M H with
          | false =>
            have HN := hide (show o = none by rw [HFL.out, hb]; rfl)
            rw [hb] at QT
            clear hb
            go_wp2_with fail
            refine (QT.out _ (Below.refl _ _)).mono ?_
            rintro e w5 ⟨rfl, hq⟩
            have HB6 := hide (below_step HB.out hq)
            have HF6 := hide (HFB.out.below hq)
            clear hq QT d0 d1 z1
            have e0 := HF6.out.2.1 0 _ rfl
            have e1 := HF6.out.2.1 1 _ rfl
            have f0 := HF6.out.free 0
            have f1 := HF6.out.free 1
            go_wp2
            exact bodyPost_ret (v := .tuple #[.agg #[.slice none 0 0, .slice none 0 0], .bool false]) (by simp [results, Tryz.results20, go_sem, *]) rfl (NetOut.no HN.out ((HB6.out.setCell (by simp) _).setCell (by simp) _))
          | true =>
            have HKK := hide (netB_ok hb)
            rw [hb] at QT HFL
            clear hb
            have QX := hide (fun W (hb : Below wr.heap.size wr W) => hyText_any lm ca lh cb A B M H W HLM.out.symm HLH.out.symm HKK.out ⟨(own_rd HO.out).below hb, (own_rd HP.out).below hb⟩)
            generalize nxT M H = x at *
            go_wp2_with fail
            refine (QT.out _ (Below.refl _ _)).mono ?_
            rintro e w5 ⟨rfl, hq⟩
            have HX := hide hq
            have HG6 := hide (HGB.out.below hq)
            clear hq QT d0 d1 z1
            have d0 := HG6.out.2.1 0 _ rfl
            have d1 := HG6.out.2.1 1 _ rfl
            have z1 := HG6.out.1
            go_wp2_with fail
            refine (QX.out _ HX.out).mono ?_
            rintro e w6 ⟨rfl, hq⟩
            have HX7 := hide (below_step HX.out hq)
            have HB7 := hide (below_step HB.out HX7.out)
            have HF7 := hide (HFB.out.below HX7.out)
            have HG7 := hide (HGB.out.below HX7.out)
            have HO7 := hide (own_below HP.out HX7.out)
            have HM7 := hide (own_below HO.out HX7.out)
            clear hq QX HX HX7 d0 d1 z1 HB HFB HGB HO HP HG6
            have e0 := HF7.out.2.1 0 _ rfl
            have e1 := HF7.out.2.1 1 _ rfl
            have f0 := HF7.out.free 0
            have f1 := HF7.out.free 1
            have d0 := HG7.out.2.1 0 _ rfl
            have d1 := HG7.out.2.1 1 _ rfl
            by_cases hx : x = s
            · subst hx
              have HS := hide (show o = some (M, H) by rw [HFL.out]; simp)
              have HBN := hide (show w.heap.size ≤ N3 by have h1 := HTW.out; have h2 := HN3.out; omega)
              have HOE := hide (own_le (B' := w.heap.size) HO7.out HBN.out)
              have HME := hide (own_le (B' := w.heap.size) HM7.out HBN.out)
              have HK1 : Hid (∀ (W : World) (o1 : Nat) (u : Value), W.ownsRow w.heap.size 73 2 (.slice B lh cb) lh (H.flatMap mcells) → (W.setCell ⟨w.heap.size, o1, none⟩ u).ownsRow w.heap.size 73 2 (.slice B lh cb) lh (H.flatMap mcells)) := hide (fun W o1 u h => own_kept h (grown_set (g := w.heap.size) u rfl) (fun q hq e => by injection e with e; have h1 := (HO7.out.lt q hq).1; have h2 := HN3.out; have h3 := HTW.out; omega))
              have HK2 : Hid (∀ (W : World) (o1 : Nat) (u : Value), W.ownsRow w.heap.size 36 2 (.slice A lm ca) lm (M.flatMap mcells) → (W.setCell ⟨w.heap.size, o1, none⟩ u).ownsRow w.heap.size 36 2 (.slice A lm ca) lm (M.flatMap mcells)) := hide (fun W o1 u h => own_kept h (grown_set (g := w.heap.size) u rfl) (fun q hq e => by injection e with e; have h1 := (HM7.out.lt q hq).1; have h2 := HN3.out; have h3 := HTW.out; omega))
              clear HO7 HM7
              go_wp2
              exact bodyPost_ret (v := .tuple #[.agg #[.slice A lm ca, .slice B lh cb], .bool true]) (by simp [results, Tryz.results20, go_sem, *]) rfl (NetOut.yes HS.out (by rw [HLM.out]; exact HK2.out _ _ _ (HK2.out _ _ _ HME.out)) (by rw [HLH.out]; exact HK1.out _ _ _ (HK1.out _ _ _ HOE.out)) ((HB7.out.setCell (by simp) _).setCell (by simp) _))
            · have HN := hide (show o = none by rw [HFL.out]; simp [hx])
              have hne := texts_ne hx
              clear hx
              go_wp2
              exact bodyPost_ret (v := .tuple #[.agg #[.slice none 0 0, .slice none 0 0], .bool false]) (by simp [results, Tryz.results20, go_sem, *]) rfl (NetOut.no HN.out ((HB7.out.setCell (by simp) _).setCell (by simp) _))
end Go.Proofs.YtfcpgpmhjadanaaGreatDoor
