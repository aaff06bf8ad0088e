/- Nets' loads: what the program's and the reference's loops hand back. -/
import Derived.Test.YtfcpgpmhjadanaaGreatDoorNetF
namespace Go.Proofs.YtfcpgpmhjadanaaGreatDoor
open Go.RowKit
set_option linter.unusedVariables false

theorem own_apart {w w' : World} {B n sz : Nat} {e : TypeId} {v : Value} {xs : List Value} {row : Option Nat} (h : w.ownsRow B e sz v n xs) (hg : w.grownBy w' row) (hne : ∀ k, v.ownBlock = some k → some k ≠ row) : w'.ownsRow B e sz v n xs :=
  h.kept hg (by
    cases hv : v.ownBlock with
    | none => exact .inl rfl
    | some k => exact .inr (hne k hv))
def LoadsPost (D : Nat → Int) (n : Nat) (w : World) (e : Ending) (w' : World) : Prop :=
  (∃ g, e = .returned (.slice (some ⟨g, 0, none⟩) n n) ∧ OwnD w' w.heap.size g n D) ∧ Below w.heap.size w w'

set_option maxRecDepth 100000 in
set_option maxHeartbeats 8000000 in
theorem loads_any (b0 : Nat) (A B C : Option Addr) (n c m d k e : Nat) (M H : List (Int × Int)) (F : List Int) (w : World) (hn : n = M.length) (hm : m = H.length) (hk : NetOk M H) (hkF : k = F.length) (hkm : k ≤ m) (hF : ∀ (i : Nat) (h : Int × Int) (f : Int), H[i]? = some h → F[i]? = some f → 0 ≤ f ∧ f ≤ 5000) (hr : NetRd w A B M H) (hf : Rd w C (F.map (Value.int .i64))) (hc0 : w.cell? ⟨b0, 0, none⟩ = some (.slice A n c)) (hc1 : w.cell? ⟨b0, 1, none⟩ = some (.slice B m d)) :
    Calls Tryz.prog 31 #[.pointer (some ⟨b0, 0, none⟩), .slice C k e] w (LoadsPost (loadsF M H F) n w) := by
  have h1 := hk.m1
  have h2 := hk.m10
  have h3 := hk.h10
  have hn10 : n ≤ 10 := by omega
  have hk10 : k ≤ 10 := by omega
  obtain ⟨i0, hi, hz0, hz1, hz2⟩ := info_parts infoIntT
  have hmk := fun W => run_makeN (P := Tryz.prog) 28 3 Tryz.underlying28 hi hz0 n (by rw [hz2]; omega) (by omega) W
  rw [hz1] at hmk
  simp only [Value.cells, Nat.mul_one] at hmk
  have HO0 := hide (OwnD.new (d := fun _ => 0) w w.heap.size n (Nat.le_refl _) (by unfold maxLen; omega) _ (made_zero n))
  have HB0 : Hid (Below w.heap.size w (w.alloc (.cells (madeCells #[.int .i64 0] n) 3))) := hide (below_alloc (Below.refl _ _) _)
  have Hn := hide hn
  have Hm := hide hm
  have HK := hide hk
  have HkF := hide hkF
  have HF := hide hF
  have HBD := hide (loadsN_bd hk hF)
  have Hr := hide hr
  have Hf := hide hf
  have HC0 := hide hc0
  have HC1 := hide hc1
  have hb0 := World.block_lt_of_cell? w _ hc0
  dsimp only at hb0
  clear hn hm hk hkF hF hr hf hc1 hi hz0 hz1 hz2 h1 h2 h3
  go_enter Tryz.func31, Tryz.ntmps31
  go_wp2_with fail
  clear hmk hc0
  generalize w.alloc (.cells (madeCells #[.int .i64 0] n) 3) = W at *
  go_loopw [18] (fun t wr => ∃ j : Nat, j ≤ k ∧ t = .int .i64 j ∧ Hid (OwnD wr w.heap.size w.heap.size n (loadsN M H F j)) ∧ Hid (Below w.heap.size w wr)) (fun t _ => k - (intOf t).toNat)
  case atStart => exact ⟨0, by omega, rfl, HO0, HB0⟩
  case round =>
    obtain ⟨j, hj, rfl, HO, HB⟩ := hrel
    clear HO0 HB0
    by_cases hlt : j < k
    · obtain ⟨f, hh⟩ : ∃ f, F[j]? = some f := ⟨_, List.getElem?_eq_getElem (by rw [← HkF.out]; exact hlt)⟩
      obtain ⟨⟨x0, x1⟩, hx⟩ : ∃ h, H[j]? = some h := ⟨_, List.getElem?_eq_getElem (by rw [← Hm.out]; omega)⟩
      obtain ⟨b, off, rfl, hbs, c0⟩ := (Hf.out.below HB.out).get1 (u := .int .i64 f) (by rw [List.getElem?_map, hh]; rfl)
      obtain ⟨f0, f1⟩ := HF.out j _ f hx hh
      have HS := hide (loadsN_succ (M := M) hx hh)
      have Hx := hide hx
      obtain ⟨-, y1, -, -⟩ := HK.out.hyd j _ hx
      have hx0 : x0 < n := by have := Hn.out; dsimp only at y1; omega
      have HWL : Hid ((wayL M x0).length ≤ 10) := hide (by have := wayL_length M x0; omega)
      have HMEM := hide (fun (x : Nat) (h : x ∈ wayL M x0) => wayL_mem HK.out (by have := Hn.out; omega) h)
      have q0 := cell_on HC0.out HB.out
      have q1 := cell_on HC1.out HB.out
      clear hx hh y1
      dsimp only at HS
      go_wp2_with fail
      refine (way_any b0 A B n c m d j M H x0 x1 wr Hn.out Hm.out HK.out Hx.out (Hr.out.below HB.out) q0 q1).mono ?_
      rintro e w2 ⟨⟨v, rfl, ho⟩, hb2⟩
      obtain ⟨A', cap, rfl, -⟩ := own_open ho
      have HW := hide ho
      have HO2 := hide (HO.out.below hb2)
      have HB2 : Hid (Below w.heap.size w w2) := hide (below_step HB.out hb2)
      have HGT : Hid (w.heap.size < wr.heap.size) := hide HO.out.lt.2
      generalize hL : (wayL M x0).length = L at *
      have HL := hide hL
      have hL10 : L ≤ 10 := HWL.out
      obtain ⟨wo, rfl⟩ : ∃ wo, wo = wr := ⟨_, rfl⟩
      clear ho hb2 q0 q1 c0 HO hL
      go_wp2_with fail
      go_loopw [27] (fun t wr => ∃ i : Nat, i ≤ L ∧ t = .int .i64 i ∧ Hid (OwnD wr w.heap.size w.heap.size n (addAll (loadsN M H F j) f ((wayL M x0).take i))) ∧ Hid (Below w.heap.size w wr) ∧ Hid (wr.ownsRow wo.heap.size 3 1 (.slice A' L cap) L (natL (wayL M x0)))) (fun t _ => L - (intOf t).toNat)
      case atStart => exact ⟨0, by omega, rfl, hide (by rw [List.take_zero]; exact HO2.out), HB2, HW⟩
      case round =>
        obtain ⟨i, hi, rfl, HOi, HBi, HWi⟩ := hrel
        clear HO2 HB2 HW
        by_cases hil : i < L
        · obtain ⟨q, hq⟩ : ∃ q, (wayL M x0)[i]? = some q := ⟨_, List.getElem?_eq_getElem (by rw [HL.out]; exact hil)⟩
          have hqn : q < n := by rw [show n = M.length from Hn.out]; exact HMEM.out q (List.mem_of_getElem? hq)
          obtain ⟨b', off', rfl, hbs', c1⟩ := (own_rd HWi.out).get1 (natL_get hq)
          have HT := hide (show (wayL M x0).take (i + 1) = (wayL M x0).take i ++ [q] by rw [List.take_add_one, hq]; rfl)
          have hbd := (Bd.addAll f0 f1 ((wayL M x0).take i) (HBD.out j)) q
          have hlen : ((wayL M x0).take i).length ≤ 10 := by rw [List.length_take]; omega
          have HSN := hide (addAll_snoc (loadsN M H F j) f ((wayL M x0).take i) q)
          have hzi := HOi.out.lt.2
          have hne : ∀ k, (Value.slice (some ⟨b', off', none⟩) L cap).ownBlock = some k → some k ≠ some w.heap.size := fun k hk e => by have := (HWi.out.lt k hk).1; have := HGT.out; injection e with e; omega
          have HNE := hide hne
          generalize addAll (loadsN M H F j) f ((wayL M x0).take i) = D at *
          have d0 := HOi.out.cell hqn
          have d1 := HOi.out.free q
          have e1 : IntKind.i64.wrap (D q + f) = D q + f := IntWalk.i64_in _ (by omega)
          have HSET := hide (HOi.out.set hqn (D q + f))
          have HWS := hide (own_apart HWi.out (grown_set (p := ⟨w.heap.size, q, none⟩) (.int .i64 (D q + f)) rfl) HNE.out)
          have HBS : Hid (Below w.heap.size w (wr.setCell ⟨w.heap.size, q, none⟩ (.int .i64 (D q + f)))) := hide (HBi.out.setCell (Nat.le_refl _) _)
          clear hq hbd hlen hne HOi HWi
          go_wp2
          go_roundw
          case rel => exact ⟨i + 1, by omega, by go_num, hide (by rw [HT.out, HSN.out]; exact HSET.out), HBS, HWS⟩
          case measure => simp [intOf]; omega
        · have HE := hide (show loadsN M H F (j + 1) = addAll (loadsN M H F j) f ((wayL M x0).take i) by rw [HS.out, List.take_of_length_le (by have := HL.out; omega)])
          go_wp2
          go_roundw
          case rel => exact ⟨j + 1, by omega, by go_num, hide (by rw [HE.out]; exact HOi.out), HBi⟩
          case measure => simp [intOf]; omega
    · have HE := hide (show loadsN M H F j = loadsF M H F by rw [loadsF, ← show k = F.length from HkF.out, show j = k by omega])
      go_wp2
      go_ret
      exact ⟨⟨_, rfl, by rw [← HE.out]; exact HO.out⟩, HB.out⟩
end Go.Proofs.YtfcpgpmhjadanaaGreatDoor
