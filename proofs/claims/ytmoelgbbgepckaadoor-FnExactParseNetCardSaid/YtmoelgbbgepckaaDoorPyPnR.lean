/- The program reads numbers with a byte between them; the reference reads a pair. -/
import Derived.Test.YtmoelgbbgepckaaDoorPyParM
import Derived.Test.YtmoelgbbgepckaaDoorPyParW
import Derived.Test.YtmoelgbbgepckaaDoorPyNetTi
import Derived.Deep.LoopGhost
namespace Go.Proofs.YtmoelgbbgepckaaDoor
open Go.RowKit
set_option linter.unusedVariables false

theorem infoIntN : (Tryd.prog.info? 3).map (fun i => (i.zero, i.size, i.bytes)) = some (some (.int .i64 0), 1, 8) := by kernel_rfl
/-- The first k numbers. -/
def numsV (L : List ByteArray) (k : Nat) : List Value := (L.take k).map fun x => Value.int .i64 (rnV x)
/-- What readNumbers hands back: whether all are numbers; if so, these. -/
def NumsPost (v : ByteArray) (b : UInt8) (w : World) (e : Ending) (w' : World) : Prop :=
  (∃ (A : Option Addr) (n c : Nat), e = .returned (.tuple #[.slice A n c, .bool ((splitS v b).all rnOk)]) ∧ ((splitS v b).all rnOk = true → n = (splitS v b).length ∧ Rd w' A ((splitS v b).map fun x => Value.int .i64 (rnV x)))) ∧ Below w.heap.size w w'

set_option maxRecDepth 100000 in
set_option maxHeartbeats 8000000 in
theorem readNumbers_any (v : ByteArray) (b : UInt8) (w : World) (hs : v.size ≤ 1048578) (he : TxtEnv w) :
    Calls Tryd.prog 130 #[.string v, .string ⟨#[b]⟩] w (NumsPost v b w) := by
  obtain ⟨i0, hi0, hz0, hz1, hz2⟩ := info_parts infoIntN
  have Hi := hide hi0
  have Hz := hide (And.intro hz0 (And.intro hz1 hz2))
  clear hi0 hz0 hz1 hz2
  have HE := hide (fun W (h : Below w.heap.size w W) => he.below h)
  have Q2 := hide (cuts_any v b w (by omega) he.max)
  have QW := hide (fun (x : ByteArray) (hx : x ∈ splitS v b) => Nat.le_trans (splitS_size _ _ hx) hs)
  have QN := hide (show (splitS v b).length ≤ 1048579 from Nat.le_trans (splitS_len _ _) (by omega))
  have HPP := hide (show NumsPost v b w = fun e w' => (∃ (A : Option Addr) (n c : Nat), e = .returned (.tuple #[.slice A n c, .bool ((splitS v b).all rnOk)]) ∧ ((splitS v b).all rnOk = true → n = (splitS v b).length ∧ Rd w' A ((splitS v b).map fun x => Value.int .i64 (rnV x)))) ∧ Below w.heap.size w w' from rfl)
  rw [HPP.out]
  generalize splitS v b = L at *
  clear he HPP
  go_enter Tryd.func130, Tryd.ntmps130
  go_wp2_with fail
  refine Q2.out.mono ?_
  rintro e w3 ⟨⟨gw, n, rfl, hn, hgw, hrd⟩, hq⟩
  have HB3 := hide hq
  have Hn := hide hn
  have HR := hide hrd
  have hn2 : n ≤ 1048579 := by have := QN.out; omega
  have HGW := hide hgw.2
  clear hq hn hrd hgw Q2
  have HBZ := hide HB3.out.size
  generalize hN3 : w3.heap.size = N3 at HGW HBZ
  have HZ3 := hide (Nat.le_of_eq hN3.symm)
  clear hN3
  go_wp2_with fail
  go_loopg [15, 6] n (fun g t s wr => ∃ (k : Nat) (A : Option Addr) (cap : Nat), t = .int .i64 (k : Int) ∧ s = .slice A k cap ∧ k ≤ n ∧ Hid (n ≤ g + k) ∧ Hid ((L.take k).all rnOk = true) ∧ Hid (wr.ownsRow N3 3 1 (.slice A k cap) k (numsV L k)) ∧ Hid (Rd wr (some ⟨gw, 0, none⟩) (L.map Value.string)) ∧ Hid (Below w.heap.size w wr) ∧ Hid (N3 ≤ wr.heap.size))
  case atStart => exact ⟨0, none, 0, rfl, rfl, by omega, hide (by omega), hide rfl, hide (World.ownsRow_nil _ _ _ _), HR, HB3, HZ3⟩
  case round =>
    obtain ⟨k, A, cap, rfl, rfl, hk, HGH, HAL, HO, HRR, HB, HZ⟩ := hrel
    by_cases hlt : k < n
    · obtain ⟨x, hx⟩ : ∃ x, L[k]? = some x := ⟨_, List.getElem?_eq_getElem (by rw [← Hn.out]; exact hlt)⟩
      have hxm := List.mem_of_getElem? hx
      have hxz := QW.out x hxm
      obtain ⟨b', off', e1, hbs, c0⟩ := HRR.out.get1 (k := k) (u := .string x) (by rw [List.getElem?_map, hx]; rfl)
      injection e1 with e1; injection e1 with e2 e3; subst e2; subst e3
      rw [Nat.zero_add] at c0
      have P1 := hide (readNumber_any x wr (by omega) (HE.out wr HB.out).num)
      have HMT := hide (show numsV L (k + 1) = numsV L k ++ [Value.int .i64 (rnV x)] from map_take_succ (fun x => Value.int .i64 (rnV x)) hx)
      have HAS := hide (fun h => all_take_succ rnOk hx HAL.out h)
      have HBAD := hide (fun (h : rnOk x = false) => show L.all rnOk = false from all_false_of rnOk (k := k) hx h)
      clear hx hxm hxz
      go_wp2_with fail
      refine P1.out.mono ?_
      rintro e x1 ⟨rfl, hq⟩
      have HX := hide hq
      clear hq P1 c0
      generalize rnV x = y at *
      generalize hk2 : rnOk x = k2 at *
      cases k2 with
      | false =>
        have HN := hide (HBAD.out rfl)
        have HBX := hide (below_step HB.out HX.out)
        clear hk2 HBAD HAS
        go_wp2
        go_ret2
        exact ⟨⟨none, 0, 0, by rw [HN.out]; rfl, fun h => by rw [HN.out] at h; cases h⟩, HBX.out⟩
      | true =>
        have HAT := hide (HAS.out rfl)
        have HRX := hide (HRR.out.below HX.out)
        have HOX := hide (own_below HO.out HX.out)
        have HBX := hide (below_step HB.out HX.out)
        have HX0 := hide HX.out.size
        clear HX HB HRR HO HBAD hk2 HAS
        have HOA := hide (World.ownsRow.alloc HOX.out (.cells #[.int .i64 y] 3))
        have HBA := hide (Row.new x1 #[.int .i64 y] 3)
        have HRA := hide (HRX.out.alloc (.cells #[.int .i64 y] 3))
        have HBW := hide (below_alloc HBX.out (.cells #[.int .i64 y] 3))
        have HSZ := hide (show N3 ≤ (x1.alloc (.cells #[.int .i64 y] 3)).heap.size from Nat.le_trans HZ.out (Nat.le_trans HX0.out (by simp)))
        clear HRX HOX HBX
        go_wp2_with (at_builtin; refine wpList_append_any rfl (.tmp 26) (.tmp 28) 136 rfl N3 3 i0 (.int .i64 0) 1 8 Tryd.underlying136 Hi.out Hz.out.1 Hz.out.2.1 Hz.out.2.2 rfl (by decide) (.slice A k cap) k (numsV L k) rfl HOA.out (some ⟨x1.heap.size, 0, none⟩) 1 1 [.int .i64 y] rfl rfl (fun e => by cases e) (fun ad e j u hu => by cases e; rw [Addr.add_lit, Nat.zero_add]; exact HBA.out.2.1 j u hu) (fun u hu => by simp at hu; rw [hu]; rfl) (by unfold maxLen; omega) (by omega) HSZ.out ?_)
        intro v6 w6 hown hgrow
        have HO6 : Hid (w6.ownsRow N3 3 1 v6 (k + 1) (numsV L (k + 1))) := hide (by rw [HMT.out]; exact hown)
        have HNB := hide (fun q hq => (HOA.out.lt q hq).1)
        have HR6 := hide (HRA.out.grown hgrow (fun b off sp e e2 => by injection e with e; injection e with e3 e4 e5; subst e3; have h1 := HNB.out _ e2.symm; have h2 := HGW.out; omega))
        have HB6 := hide (HBW.out.grown hgrow HBW.out.size (fun q hq => by have h1 := HNB.out _ hq; have h2 := HBZ.out; omega))
        have HZ6 := hide (Nat.le_trans HSZ.out hgrow.size)
        clear hown hgrow HOA HBA HRA HBW HSZ
        obtain ⟨A6, c6, rfl, -⟩ := own_open HO6.out
        go_wp2
        go_roundg (gk - 1)
        case rel => exact ⟨k + 1, A6, c6, by go_num, rfl, by omega, hide (by have := HGH.out; omega), HAT, HO6, HR6, HB6, HZ6⟩
        case measure => have := HGH.out; omega
    · obtain rfl : k = n := by omega
      have HTA := hide (show L.all rnOk = true by have h := HAL.out; rwa [List.take_of_length_le (by have := Hn.out; omega)] at h)
      have HTK := hide (show numsV L k = L.map fun x => Value.int .i64 (rnV x) by rw [numsV, List.take_of_length_le (by have := Hn.out; omega)])
      rw [HTK.out] at HO
      have HRD := hide (own_rd HO.out)
      go_wp2
      go_ret2
      exact ⟨⟨_, _, _, by rw [HTA.out]; rfl, fun _ => ⟨Hn.out, HRD.out⟩⟩, HB.out⟩

set_option maxRecDepth 100000 in
set_option maxHeartbeats 4000000 in
theorem hyPair_any (v : ByteArray) (b : UInt8) (w : World) (hs : v.size ≤ 1048578) :
    Calls Tryd.prog 92 #[.string v, .int .u8 (b.toNat : Int)] w fun e w' => e = .returned (.tuple #[.int .i64 (pairS b v).1, .int .i64 (pairS b v).2]) ∧ Below w.heap.size w w' := by
  have Q := hide (split_any v b w (by omega))
  have HZ := hide (fun x (hx : x ∈ splitS v b) => Nat.le_trans (splitS_size v b hx) hs)
  have HV : Hid (pairS b v = if (splitS v b).length = 2 then (readS ((splitS v b).getD 0 ByteArray.empty), readS ((splitS v b).getD 1 ByteArray.empty)) else (-1, -1)) := hide rfl
  generalize pairS b v = o at *
  by_cases h2 : (splitS v b).length = 2
  · obtain ⟨a, c, hab⟩ : ∃ a c, splitS v b = [a, c] := by
      match hq : splitS v b, h2 with
      | [a, c], _ => exact ⟨a, c, rfl⟩
    rw [hab] at HV HZ Q
    have HO := hide (show o = (readS a, readS c) by rw [HV.out]; rfl)
    have hza := HZ.out a (by simp)
    have hzb := HZ.out c (by simp)
    have E0 := hide (fun W => read_any a W (by unfold maxLen; omega))
    have E1 := hide (fun W => read_any c W (by unfold maxLen; omega))
    clear h2 hab hza hzb HZ hs HV
    rw [HO.out]
    clear HO
    dsimp only
    generalize readS a = ya at *
    generalize readS c = yc at *
    go_enter Tryd.func92, Tryd.ntmps92
    go_wp2_with fail
    refine Q.out.mono ?_
    rintro e w1 ⟨⟨v', rfl, ho⟩, hq⟩
    obtain ⟨A, cap, rfl, hrd, -⟩ := own_open ho
    obtain ⟨b1, off, rfl, hbs, c0⟩ := hrd.get1 (k := 0) (u := .string a) rfl
    obtain ⟨b3, off3, e3, hbs3, c1⟩ := hrd.get1 (k := 1) (u := .string c) rfl
    injection e3 with e3; injection e3 with e4 e5; subst e4; subst e5
    have c0 : w1.cell? ⟨b1, off, none⟩ = some (.string a) := c0
    have HB1 := hide hq
    clear hq Q ho hrd
    go_wp2_with fail
    refine wp_region_later (by kernel_rfl) (by kernel_rfl) ?_
    repeat (go_big_quiet_step ((go_at_call 62; (first | with_reducible exact calls_later (E0.out _) | with_reducible exact calls_later (E1.out _)))))
    refine wpQuiet_nil ?_
    refine later_intro fun w5 hb5 => ?_
    have HB5 := hide (below_step HB1.out hb5)
    clear hb5
    go_wp2
    go_ret2
    exact ⟨rfl, HB5.out⟩
  · have HF := hide (show o = (-1, -1) by rw [HV.out, if_neg h2])
    have g2 : ((splitS v b).length : Int) ≠ 2 := by omega
    generalize splitS v b = L at *
    clear HV HZ h2 hs
    rw [HF.out]
    go_enter Tryd.func92, Tryd.ntmps92
    go_wp2_with fail
    refine Q.out.mono ?_
    rintro e w1 ⟨⟨v', rfl, ho⟩, hq⟩
    obtain ⟨A, cap, rfl, hrd, -⟩ := own_open ho
    have HB1 := hide hq
    clear hq Q ho hrd
    go_wp2_with fail
    go_ret2
    exact ⟨rfl, HB1.out⟩
end Go.Proofs.YtmoelgbbgepckaaDoor
