/- The way of a hydrant. -/
import Derived.Test.YtfcpgpmhjadanaaGreatDoorNetE
namespace Go.Proofs.YtfcpgpmhjadanaaGreatDoor
open Go.RowKit
set_option linter.unusedVariables false
def natL (L : List Nat) : List Value := L.map fun i : Nat => Value.int .i64 (i : Int)
theorem natL_append (A B : List Nat) : natL (A ++ B) = natL A ++ natL B := by simp [natL]
theorem natL_length (A : List Nat) : (natL A).length = A.length := by simp [natL]
theorem natL_get {L : List Nat} {i k : Nat} (h : L[i]? = some k) : (natL L)[i]? = some (.int .i64 (k : Int)) := by simp [natL, h]

def WayPost (M : List (Int × Int)) (x : Int) (w : World) (e : Ending) (w' : World) : Prop :=
  (∃ v, e = .returned v ∧ w'.ownsRow w.heap.size 3 1 v (wayL M x).length (natL (wayL M x))) ∧ Below w.heap.size w w'

set_option maxRecDepth 100000 in
set_option maxHeartbeats 4000000 in
theorem way_any (b0 : Nat) (A B : Option Addr) (n c m d h : Nat) (M H : List (Int × Int)) (x0 x1 : Int) (w : World) (hn : n = M.length) (hm : m = H.length) (hk : NetOk M H) (hx : H[h]? = some (x0, x1)) (hr : NetRd w A B M H) (hc0 : w.cell? ⟨b0, 0, none⟩ = some (.slice A n c)) (hc1 : w.cell? ⟨b0, 1, none⟩ = some (.slice B m d)) :
    Calls Tryz.prog 62 #[.pointer (some ⟨b0, 0, none⟩), .int .i64 (h : Int)] w (WayPost M x0 w) := by
  obtain ⟨i0, hi0, hz0, hz1, hz2⟩ := info_parts infoIntT
  have Hi := hide hi0
  have Hz := hide (And.intro hz0 (And.intro hz1 hz2))
  have h1 := hk.m1
  have h2 := hk.m10
  have h3 := hk.h10
  obtain ⟨y0, y1, y2, y3⟩ := hk.hyd h _ hx
  obtain ⟨bh, oh, rfl, hbh, d0, d1⟩ := hr.2.get2 (fun _ => rfl) hx rfl
  have hhm : h < m := by rw [hm]; exact (List.getElem?_eq_some_iff.1 hx).1
  have hm10 : m ≤ 10 := by omega
  have hn10 : n ≤ 10 := by omega
  have hx0 : x0 < n := by dsimp only at y1; omega
  have hx00 : 0 ≤ x0 := y0
  have HA := hide hr.1
  have HC0 := hide hc0
  have HC1 := hide hc1
  have Hn := hide hn
  have HK := hide hk
  have hb0 := World.block_lt_of_cell? w _ hc0
  have HWL : Hid ((wayL M x0).length ≤ 10) := hide (by have := wayL_length M x0; omega)
  dsimp only at hb0 d0 d1
  clear hi0 hz0 hz1 hz2 hn hm hk hx hr hc0 y0 y1 y2 y3 h1 h2 h3
  go_enter Tryz.func62, Tryz.ntmps62
  go_wp2_with fail
  clear d0 d1 hc1
  go_loopw [5, 6] (fun v t wr => ∃ (P : List Nat) (a : Int), t = .int .i64 a ∧ -1 ≤ a ∧ a < n ∧ Hid (P ++ wayL M a = wayL M x0) ∧ Hid (wr.ownsRow w.heap.size 3 1 v P.length (natL P)) ∧ Hid (Below w.heap.size w wr)) (fun _ t _ => (intOf t + 1).toNat)
  case atStart => exact ⟨[], x0, rfl, by omega, by omega, hide rfl, hide (World.ownsRow_nil _ _ _ _), hide (Below.refl _ _)⟩
  case round =>
    obtain ⟨P, a, rfl, ha0, ha1, HP, HO, HB⟩ := hrel
    by_cases h0 : 0 ≤ a
    · obtain ⟨k, rfl⟩ := Int.eq_ofNat_of_zero_le h0
      have hkn : k < n := by omega
      obtain ⟨⟨p0, p1⟩, hp⟩ : ∃ h, M[k]? = some h := ⟨_, List.getElem?_eq_getElem (by rw [← Hn.out]; exact hkn)⟩
      have hpl := HK.out.par_lt (k := k) (by rw [← Hn.out]; exact hkn)
      rw [par_some hp] at hpl
      obtain ⟨hp1, hp2⟩ := hpl
      dsimp only at hp1 hp2
      have HW := hide (show wayL M k = k :: wayL M p0 by rw [wayL_step HK.out (by rw [← Hn.out]; exact hkn), par_some hp])
      have HPL : Hid (P.length ≤ 10) := hide (by have := HWL.out; rw [← HP.out, List.length_append] at this; omega)
      have HOA := hide (HO.out.alloc (.cells #[.int .i64 (k : Int)] 3))
      have HNC := hide (show ∀ (i : Nat) (u : Value), [Value.int .i64 (k : Int)][i]? = some u → (wr.alloc (.cells #[.int .i64 (k : Int)] 3)).cell? ((⟨wr.heap.size, 0, none⟩ : Addr).add i) = some u from fun i u hu => by rw [Addr.add_lit, Nat.zero_add]; exact (Row.new _ _ _).2.1 i u hu)
      have HWZ : Hid (w.heap.size ≤ (wr.alloc (.cells #[.int .i64 (k : Int)] 3)).heap.size) := hide (by have := HB.out.size; simp; omega)
      have Hp := hide hp
      clear hp h0
      go_wp2_with (at_builtin; refine wpList_append_own _ rfl (.tmp 25) (.tmp 27) 28 rfl w.heap.size 3 i0 (.int .i64 0) 1 8 Tryz.underlying28 Hi.out Hz.out.1 Hz.out.2.1 Hz.out.2.2 rfl (by decide) _ _ _ rfl HOA.out ⟨wr.heap.size, 0, none⟩ 1 1 [.int .i64 (k : Int)] rfl rfl HNC.out ?c1 ?c2 ?c3 HWZ.out ?_)
      case c1 => simp [Value.oneCell']
      case c2 => have := HPL.out; unfold maxLen; omega
      case c3 => have := HPL.out; omega
      intro v' w5 hown hgrow _
      have hbl := fun q hq => (HO.out.lt q hq).1
      have HB5 : Hid (Below w.heap.size w w5) := hide ((below_alloc HB.out _).grown hgrow (by have := HB.out.size; simp; omega) hbl)
      have HO5 := hide hown
      obtain ⟨b, off, rfl, hbs, c0, c1⟩ := (HA.out.below HB5.out).get2 (fun _ => rfl) Hp.out rfl
      have q0 := cell_on HC0.out HB5.out
      have hbz := Nat.lt_of_lt_of_le hb0 HB5.out.size
      dsimp only at c0 c1
      clear hown hgrow hbl HOA HNC HWZ
      go_wp2
      go_roundw
      case rel => exact ⟨P ++ [k], p0, rfl, by omega, by omega, hide (by rw [List.append_assoc, List.singleton_append, ← HW.out]; exact HP.out), hide (by rw [List.length_append, natL_append]; exact HO5.out), HB5⟩
      case measure => simp [intOf]; omega
    · go_wp2
      go_ret
      refine ⟨⟨_, rfl, ?_⟩, HB.out⟩
      have := HP.out
      rw [wayL_neg M a (by omega), List.append_nil] at this
      rw [← this]
      exact HO.out
end Go.Proofs.YtfcpgpmhjadanaaGreatDoor
