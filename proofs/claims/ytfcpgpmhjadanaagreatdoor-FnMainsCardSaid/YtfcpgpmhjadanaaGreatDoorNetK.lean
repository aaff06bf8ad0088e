/- The mains whose load and limit have a property: the reference. -/
import Derived.Test.YtfcpgpmhjadanaaGreatDoorNetI
namespace Go.Proofs.YtfcpgpmhjadanaaGreatDoor
open Go.RowKit
set_option linter.unusedVariables false

def WithPost (p : Int → Int → Bool) (M : List (Int × Int)) (D : Nat → Int) (n : Nat) (w : World) (e : Ending) (w' : World) : Prop :=
  (∃ v, e = .returned v ∧ w'.ownsRow w.heap.size 3 1 v (withN p M D n).length ((withN p M D n).map (Value.int .i64))) ∧ Below w.heap.size w w'
theorem withN_yes {p : Int → Int → Bool} {M : List (Int × Int)} {L : Nat → Int} {k : Nat} {m : Int × Int} (hm : M[k]? = some m) (h : p (L k) m.2 = true) : withN p M L (k + 1) = withN p M L k ++ [(k : Int)] := by rw [withN_succ hm, h]; rfl
theorem withN_no {p : Int → Int → Bool} {M : List (Int × Int)} {L : Nat → Int} {k : Nat} {m : Int × Int} (hm : M[k]? = some m) (h : p (L k) m.2 = false) : withN p M L (k + 1) = withN p M L k := by rw [withN_succ hm, h]; rfl
def overP (x y : Int) : Bool := decide (y < x)
def tightP (x y : Int) : Bool := x == y

set_option maxRecDepth 100000 in
set_option maxHeartbeats 4000000 in
theorem hyOver_any (A B C : Option Addr) (n c m d k ecap : Nat) (M H : List (Int × Int)) (F : List Int) (w : World) (hn : n = M.length) (hm : m = H.length) (hk : NetOk M H) (hkF : k = F.length) (hkm : k ≤ m) (hF : ∀ (i : Nat) (h : Int × Int) (f : Int), H[i]? = some h → F[i]? = some f → 0 ≤ f ∧ f ≤ 5000) (hr : NetRd w A B M H) (hf : Rd w C (F.map (Value.int .i64))) :
    Calls Tryz.prog 36 #[.agg #[.slice A n c, .slice B m d], .slice C k ecap] w (WithPost overP M (loadsF M H F) n w) := by
  obtain ⟨i0, hi0, hz0, hz1, hz2⟩ := info_parts infoIntT
  have Hi := hide hi0
  have Hz := hide (And.intro hz0 (And.intro hz1 hz2))
  have hc := cell_new2 w (.slice A n c) (.slice B m d) 27
  have Q := hide (hyLoads_any A B C n c m d k ecap M H F (w.alloc (.cells #[.slice A n c, .slice B m d] 27)) hn hm hk hkF hkm hF (hr.alloc _) (hf.alloc _))
  have Hn := hide hn
  have hn10 : n ≤ 10 := by have := hk.m10; omega
  have HM := hide hr.1
  have HPO := hide (show WithPost overP M (loadsF M H F) n w = WithPost overP M (loadsF M H F) n w from rfl)
  clear hn hm hk hkF hkm hF hr hf hi0 hz0 hz1 hz2 HPO
  go_enter Tryz.func36, Tryz.ntmps36
  go_wp2_with fail
  generalize loadsF M H F = D at *
  refine Q.out.mono ?_
  rintro e w1 ⟨⟨g, rfl, ho⟩, hq⟩
  have HW1 : Hid (Below w.heap.size w w1) := hide (below_step (below_alloc (Below.refl _ _) _) hq)
  have a0 := hide (cell_on hc.1 hq)
  have HD := hide ho
  have hz := World.block_lt_of_cell? w1 _ a0.out
  have HG := hide ho.lt.2
  dsimp only at hz
  clear hq Q hc ho
  go_wp2_with fail
  go_loopw [5, 12] (fun v t wr => ∃ j : Nat, j ≤ n ∧ t = .int .i64 j ∧ Hid (wr.ownsRow w1.heap.size 3 1 v (withN overP M D j).length ((withN overP M D j).map (Value.int .i64))) ∧ Hid (Below w1.heap.size w1 wr)) (fun _ t _ => n - (intOf t).toNat)
  case atStart => exact ⟨0, by omega, rfl, hide (World.ownsRow_nil _ _ _ _), hide (Below.refl _ _)⟩
  case round =>
    obtain ⟨j, hj, rfl, HO, HB⟩ := hrel
    by_cases hlt : j < n
    · obtain ⟨⟨y0, y1⟩, hy⟩ : ∃ h, M[j]? = some h := ⟨_, List.getElem?_eq_getElem (by rw [← Hn.out]; exact hlt)⟩
      obtain ⟨b, off, rfl, hbs, c0, c1⟩ := (HM.out.below (below_step HW1.out HB.out)).get2 (fun _ => rfl) hy rfl
      have Hy := hide hy
      have d0 := (HD.out.below HB.out).cell hlt
      have dz := (HD.out.below HB.out).lt.2
      have q0 := cell_on a0.out HB.out
      have hwz := Nat.lt_of_lt_of_le hz HB.out.size
      clear hy
      dsimp only at c0 c1
      have HLN := hide (withN_length overP M D j)
      have HYES := hide (fun h => withN_yes (p := overP) (L := D) Hy.out h)
      have HNO := hide (fun h => withN_no (p := overP) (L := D) Hy.out h)
      generalize D j = x at *
      cases hp : (decide (y1 < x)) with
      | true =>
        have HN := hide (HYES.out (show overP x y1 = true from hp))
        have HOA := hide (HO.out.alloc (.cells #[.int .i64 (j : Int)] 3))
        have HNC := hide (show ∀ (i : Nat) (u : Value), [Value.int .i64 (j : Int)][i]? = some u → (wr.alloc (.cells #[.int .i64 (j : Int)] 3)).cell? ((⟨wr.heap.size, 0, none⟩ : Addr).add i) = some u from fun i u hu => by rw [Addr.add_lit, Nat.zero_add]; exact (Row.new _ _ _).2.1 i u hu)
        have HWZ : Hid (w1.heap.size ≤ (wr.alloc (.cells #[.int .i64 (j : Int)] 3)).heap.size) := hide (by have := HB.out.size; simp; omega)
        clear HYES HNO
        go_wp2_with (at_builtin; refine wpList_append_own _ rfl (.tmp 25) (.tmp 27) 28 rfl w1.heap.size 3 i0 (.int .i64 0) 1 8 Tryz.underlying28 Hi.out Hz.out.1 Hz.out.2.1 Hz.out.2.2 rfl (by decide) _ _ _ rfl HOA.out ⟨wr.heap.size, 0, none⟩ 1 1 [.int .i64 (j : Int)] rfl rfl HNC.out ?c1 ?c2 ?c3 HWZ.out ?_)
        case c1 => simp [Value.oneCell']
        case c2 => have := HLN.out; unfold maxLen; omega
        case c3 => have := HLN.out; omega
        intro v' w5 hown hgrow _
        have hbl := fun q hq => (HO.out.lt q hq).1
        have HB5 : Hid (Below w1.heap.size w1 w5) := hide ((below_alloc HB.out _).grown hgrow (by have := HB.out.size; simp; omega) hbl)
        have HO5 := hide hown
        clear hown hgrow hbl HOA HNC HWZ
        go_wp2
        go_roundw
        case rel => exact ⟨j + 1, by omega, by go_num, hide (by rw [HN.out, List.length_append, List.map_append]; exact HO5.out), HB5⟩
        case measure => simp [intOf]; omega
      | false =>
        have HN := hide (HNO.out (show overP x y1 = false from hp))
        clear HYES HNO
        go_wp2
        go_roundw
        case rel => exact ⟨j + 1, by omega, by go_num, hide (by rw [HN.out]; exact HO.out), HB⟩
        case measure => simp [intOf]; omega
    · have hjn : j = n := by omega
      subst hjn
      go_wp2
      go_ret
      exact ⟨⟨_, rfl, own_le HO.out HW1.out.size⟩, below_step HW1.out HB.out⟩

set_option maxRecDepth 100000 in
set_option maxHeartbeats 4000000 in
theorem hyTight_any (A B C : Option Addr) (n c m d k ecap : Nat) (M H : List (Int × Int)) (F : List Int) (w : World) (hn : n = M.length) (hm : m = H.length) (hk : NetOk M H) (hkF : k = F.length) (hkm : k ≤ m) (hF : ∀ (i : Nat) (h : Int × Int) (f : Int), H[i]? = some h → F[i]? = some f → 0 ≤ f ∧ f ≤ 5000) (hr : NetRd w A B M H) (hf : Rd w C (F.map (Value.int .i64))) :
    Calls Tryz.prog 38 #[.agg #[.slice A n c, .slice B m d], .slice C k ecap] w (WithPost tightP M (loadsF M H F) n w) := by
  obtain ⟨i0, hi0, hz0, hz1, hz2⟩ := info_parts infoIntT
  have Hi := hide hi0
  have Hz := hide (And.intro hz0 (And.intro hz1 hz2))
  have hc := cell_new2 w (.slice A n c) (.slice B m d) 27
  have Q := hide (hyLoads_any A B C n c m d k ecap M H F (w.alloc (.cells #[.slice A n c, .slice B m d] 27)) hn hm hk hkF hkm hF (hr.alloc _) (hf.alloc _))
  have Hn := hide hn
  have hn10 : n ≤ 10 := by have := hk.m10; omega
  have HM := hide hr.1
  have HPO := hide (show WithPost tightP M (loadsF M H F) n w = WithPost tightP M (loadsF M H F) n w from rfl)
  clear hn hm hk hkF hkm hF hr hf hi0 hz0 hz1 hz2 HPO
  go_enter Tryz.func38, Tryz.ntmps38
  go_wp2_with fail
  generalize loadsF M H F = D at *
  refine Q.out.mono ?_
  rintro e w1 ⟨⟨g, rfl, ho⟩, hq⟩
  have HW1 : Hid (Below w.heap.size w w1) := hide (below_step (below_alloc (Below.refl _ _) _) hq)
  have a0 := hide (cell_on hc.1 hq)
  have HD := hide ho
  have hz := World.block_lt_of_cell? w1 _ a0.out
  have HG := hide ho.lt.2
  dsimp only at hz
  clear hq Q hc ho
  go_wp2_with fail
  go_loopw [5, 12] (fun v t wr => ∃ j : Nat, j ≤ n ∧ t = .int .i64 j ∧ Hid (wr.ownsRow w1.heap.size 3 1 v (withN tightP M D j).length ((withN tightP M D j).map (Value.int .i64))) ∧ Hid (Below w1.heap.size w1 wr)) (fun _ t _ => n - (intOf t).toNat)
  case atStart => exact ⟨0, by omega, rfl, hide (World.ownsRow_nil _ _ _ _), hide (Below.refl _ _)⟩
  case round =>
    obtain ⟨j, hj, rfl, HO, HB⟩ := hrel
    by_cases hlt : j < n
    · obtain ⟨⟨y0, y1⟩, hy⟩ : ∃ h, M[j]? = some h := ⟨_, List.getElem?_eq_getElem (by rw [← Hn.out]; exact hlt)⟩
      obtain ⟨b, off, rfl, hbs, c0, c1⟩ := (HM.out.below (below_step HW1.out HB.out)).get2 (fun _ => rfl) hy rfl
      have Hy := hide hy
      have d0 := (HD.out.below HB.out).cell hlt
      have dz := (HD.out.below HB.out).lt.2
      have q0 := cell_on a0.out HB.out
      have hwz := Nat.lt_of_lt_of_le hz HB.out.size
      clear hy
      dsimp only at c0 c1
      have HLN := hide (withN_length tightP M D j)
      have HYES := hide (fun h => withN_yes (p := tightP) (L := D) Hy.out h)
      have HNO := hide (fun h => withN_no (p := tightP) (L := D) Hy.out h)
      generalize D j = x at *
      cases hp : (x == y1) with
      | true =>
        have HN := hide (HYES.out (show tightP x y1 = true from hp))
        have HOA := hide (HO.out.alloc (.cells #[.int .i64 (j : Int)] 3))
        have HNC := hide (show ∀ (i : Nat) (u : Value), [Value.int .i64 (j : Int)][i]? = some u → (wr.alloc (.cells #[.int .i64 (j : Int)] 3)).cell? ((⟨wr.heap.size, 0, none⟩ : Addr).add i) = some u from fun i u hu => by rw [Addr.add_lit, Nat.zero_add]; exact (Row.new _ _ _).2.1 i u hu)
        have HWZ : Hid (w1.heap.size ≤ (wr.alloc (.cells #[.int .i64 (j : Int)] 3)).heap.size) := hide (by have := HB.out.size; simp; omega)
        clear HYES HNO
        go_wp2_with (at_builtin; refine wpList_append_own _ rfl (.tmp 25) (.tmp 27) 28 rfl w1.heap.size 3 i0 (.int .i64 0) 1 8 Tryz.underlying28 Hi.out Hz.out.1 Hz.out.2.1 Hz.out.2.2 rfl (by decide) _ _ _ rfl HOA.out ⟨wr.heap.size, 0, none⟩ 1 1 [.int .i64 (j : Int)] rfl rfl HNC.out ?c1 ?c2 ?c3 HWZ.out ?_)
        case c1 => simp [Value.oneCell']
        case c2 => have := HLN.out; unfold maxLen; omega
        case c3 => have := HLN.out; omega
        intro v' w5 hown hgrow _
        have hbl := fun q hq => (HO.out.lt q hq).1
        have HB5 : Hid (Below w1.heap.size w1 w5) := hide ((below_alloc HB.out _).grown hgrow (by have := HB.out.size; simp; omega) hbl)
        have HO5 := hide hown
        clear hown hgrow hbl HOA HNC HWZ
        go_wp2
        go_roundw
        case rel => exact ⟨j + 1, by omega, by go_num, hide (by rw [HN.out, List.length_append, List.map_append]; exact HO5.out), HB5⟩
        case measure => simp [intOf]; omega
      | false =>
        have HN := hide (HNO.out (show tightP x y1 = false from hp))
        clear HYES HNO
        go_wp2
        go_roundw
        case rel => exact ⟨j + 1, by omega, by go_num, hide (by rw [HN.out]; exact HO.out), HB⟩
        case measure => simp [intOf]; omega
    · have hjn : j = n := by omega
      subst hjn
      go_wp2
      go_ret
      exact ⟨⟨_, rfl, own_le HO.out HW1.out.size⟩, below_step HW1.out HB.out⟩

end Go.Proofs.YtfcpgpmhjadanaaGreatDoor
