/- Several texts in one. TownText: both sides. A town handed back, or none. The program reads a town. ParseTown: the program's side, as it is called. The reference reads a street. The reference reads a town. -/
import Derived.Test.YtbhnaakknfienaaGreatDoorPrA
import Derived.Test.YtbhnaakknfienaaGreatDoorRegX
import Derived.Deep.LoopGhost
import Derived.Deep.DeepCutAuto
import Derived.Deep.CutBlock
import Derived.Deep.AppendLies
namespace Go.Proofs.YtbhnaakknfienaaGreatDoor
open Go.RowKit
set_option linter.unusedVariables false

def txV (nd : Int) (l : List StT) : ByteArray := if townB nd l then ttN nd.toNat l l.length else ByteArray.empty
theorem txV_no {nd : Int} {l : List StT} (h : townB nd l = false) : txV nd l = ⟨#[]⟩ := by rw [txV, h]; rfl
theorem txV_yes {k : Nat} {l : List StT} (h : townB k l = true) : txV k l = ttN k l l.length := by rw [txV, if_pos h, Int.toNat_natCast]
theorem ret_txt {s t : ByteArray} {a b : Bool} (h : s = t) (h2 : a = b) : Ending.returned (.tuple #[.string s, .bool a]) = .returned (.tuple #[.string t, .bool b]) := by rw [h, h2]

set_option maxHeartbeats 2000000 in
theorem specTownText_any (nd : Int) (A : Option Addr) (n c : Nat) (l : List StT) (w : World) (hn : n = l.length) (hm : n ≤ maxLen) (hr : Rd w A (l.flatMap tcells)) :
    Calls Tryz.prog 25 #[.agg #[.int .i64 nd, .slice A n c]] w fun e w' => e = .returned (.tuple #[.string (txV nd l), .bool (townB nd l)]) ∧ Below w.heap.size w w' := by
  have Q := hide (toGood_any nd A n c l (w.alloc (.cells #[.int .i64 nd, .slice A n c] 26)) hn hm (hr.alloc _))
  have Hn := hide hn
  have Hr := hide hr
  clear hn hm hr
  cases ht : townB nd l with
  | false =>
    rw [ht] at Q
    have HG := hide (txV_no ht)
    clear ht
    go_enter Tryz.func25, Tryz.ntmps25
    go_wp2_with fail
    refine Q.out.mono ?_
    rintro e w1 ⟨rfl, hq⟩
    go_wp2
    go_ret2
    exact ⟨ret_txt HG.out.symm rfl, below_step (below_alloc (Below.refl _ _) _) hq⟩
  | true =>
    rw [ht] at Q
    obtain ⟨k, rfl, hk⟩ := townB_ok ht
    have HG := hide ((txV_yes ht).trans (by rw [← Hn.out]))
    have HK := hide hk
    clear ht hk
    go_enter Tryz.func25, Tryz.ntmps25
    go_wp2_with fail
    refine Q.out.mono ?_
    rintro e w1 ⟨rfl, hq⟩
    obtain ⟨a0, a1⟩ := cell_new2 w (.int .i64 k) (.slice A n c) 26
    have a0 := cell_on a0 hq
    have a1 := cell_on a1 hq
    have HW1 : Hid (Below w.heap.size w w1) := hide (below_step (below_alloc (Below.refl _ _) _) hq)
    have z0 := World.block_lt_of_cell? w1 _ a0
    dsimp only at z0
    clear hq Q
    go_wp2_with fail
    refine (toText_any k n c A l _ Hn.out HK.out (Hr.out.below HW1.out)).mono ?_
    rintro e w2 ⟨rfl, hq⟩
    have HW2 := hide (below_step HW1.out hq)
    clear hq a0 a1 z0
    go_wp2
    go_ret2
    exact ⟨ret_txt HG.out.symm rfl, HW2.out⟩

set_option maxHeartbeats 2000000 in
theorem implTownText_any (nd : Int) (A : Option Addr) (n c : Nat) (l : List StT) (w : World) (hn : n = l.length) (hm : n ≤ maxLen) (ht : Tab w) (hr : Rd w A (l.flatMap tcells)) :
    Calls Tryz.prog 24 #[.agg #[.int .i64 nd, .slice A n c]] w fun e w' => e = .returned (.tuple #[.string (txV nd l), .bool (townB nd l)]) ∧ Below w.heap.size w w' := by
  have Q := hide (implisTown_any w.heap.size nd A n c l (w.alloc (.cells #[.int .i64 nd, .slice A n c] 26)) hn hm (hr.alloc _) (by simp) ((Row.new _ _ _).2.1 0 _ rfl) ((Row.new _ _ _).2.1 1 _ rfl))
  have Hn := hide hn
  have Hr := hide hr
  have HT := hide ht
  clear hn hm hr ht
  cases ht : townB nd l with
  | false =>
    rw [ht] at Q
    have HG := hide (txV_no ht)
    clear ht
    go_enter Tryz.func24, Tryz.ntmps24
    go_wp2_with fail
    refine Q.out.mono ?_
    rintro e w1 ⟨rfl, hq⟩
    go_wp2
    go_ret2
    exact ⟨ret_txt HG.out.symm rfl, below_step (below_alloc (Below.refl _ _) _) hq⟩
  | true =>
    rw [ht] at Q
    obtain ⟨k, rfl, hk⟩ := townB_ok ht
    have HG := hide ((txV_yes ht).trans (by rw [← Hn.out]))
    have HK := hide hk
    clear ht hk
    go_enter Tryz.func24, Tryz.ntmps24
    go_wp2_with fail
    refine Q.out.mono ?_
    rintro e w1 ⟨rfl, hq⟩
    obtain ⟨a0, a1⟩ := cell_new2 w (.int .i64 k) (.slice A n c) 26
    have A0 := hide (cell_on a0 hq)
    have A1 := hide (cell_on a1 hq)
    have HW1 : Hid (Below w.heap.size w w1) := hide (below_step (below_alloc (Below.refl _ _) _) hq)
    have z0 := World.block_lt_of_cell? w1 _ A0.out
    dsimp only at z0
    clear hq Q a0 a1
    go_wp2_with fail
    refine (text_any w.heap.size k n c A l _ Hn.out HK.out (Hr.out.below HW1.out) A0.out A1.out (tab_below HT.out HW1.out)).mono ?_
    rintro e w2 ⟨rfl, hq⟩
    have HW2 := hide (below_step HW1.out hq)
    clear hq z0
    go_wp2
    go_ret2
    exact ⟨ret_txt HG.out.symm rfl, HW2.out⟩
end Go.Proofs.YtbhnaakknfienaaGreatDoor
namespace Go.Proofs.YtbhnaakknfienaaGreatDoor
open Go.RowKit
set_option linter.unusedVariables false

def outN (o : Option (Int × List StT)) : Int := match o with
  | some x => x.1
  | none => 0
def outL (o : Option (Int × List StT)) : List StT := match o with
  | some x => x.2
  | none => []
def TownOut (o : Option (Int × List StT)) (w : World) (e : Ending) (w' : World) : Prop :=
  (∃ v, e = .returned (.tuple #[.agg #[.int .i64 (outN o), v], .bool o.isSome]) ∧ w'.ownsRow w.heap.size 39 3 v (outL o).length ((outL o).flatMap tcells)) ∧ Below w.heap.size w w'
theorem TownOut.no {o : Option (Int × List StT)} {w w' : World} (h : o = none) (hb : Below w.heap.size w w') : TownOut o w (.returned (.tuple #[.agg #[.int .i64 0, .slice none 0 0], .bool false])) w' := by
  subst h
  exact ⟨⟨_, rfl, World.ownsRow_nil _ _ _ _⟩, hb⟩
theorem TownOut.yes {o : Option (Int × List StT)} {nd : Int} {l : List StT} {w w' : World} {v : Value} (h : o = some (nd, l)) (hv : w'.ownsRow w.heap.size 39 3 v l.length (l.flatMap tcells)) (hb : Below w.heap.size w w') : TownOut o w (.returned (.tuple #[.agg #[.int .i64 nd, v], .bool true])) w' := by
  subst h
  exact ⟨⟨_, rfl, hv⟩, hb⟩
theorem infoStreetP : (Tryz.prog.info? 39).map (fun i => (i.zero, i.size, i.bytes)) = some (some (.agg #[.int .i64 0, .int .i64 0, .int .i64 0]), 3, 24) := by kernel_rfl
theorem texts_ne {a b : ByteArray} (h : a ≠ b) : (a.toList == b.toList) = false := by rw [texts_eq, decide_eq_false h]
theorem cut_size (s : ByteArray) (b : UInt8) : (cutA s b).size ≤ s.size ∧ (cutB s b).size ≤ s.size := by
  have ha : (cutA s b).size = (Lib.cut s.data.toList [b]).1.length := rfl
  have hb : (cutB s b).size = (Lib.cut s.data.toList [b]).2.1.length := rfl
  have hs : s.size = s.data.toList.length := rfl
  rw [ha, hb, hs]
  rcases cut_cases b s.data.toList with h | ⟨p, r, e, hp⟩
  · rw [cut_no h]; simp
  · have hc := cut_byte (r := r) hp
    rw [← e] at hc
    rw [hc, e]
    simp only [List.length_append, List.length_cons]
    omega
theorem map_take_succ {α β : Type} (f : α → β) {l : List α} {k : Nat} {a : α} (h : l[k]? = some a) : (l.take (k + 1)).map f = (l.take k).map f ++ [f a] := by
  rw [List.take_add_one, h, List.map_append]; rfl
theorem all_take_add {α : Type} (p : α → Bool) {l : List α} {k : Nat} {a : α} (h : l[k]? = some a) : (l.take (k + 1)).all p = ((l.take k).all p && p a) := by
  rw [List.take_add_one, h, List.all_append]
  simp
end Go.Proofs.YtbhnaakknfienaaGreatDoor
namespace Go.Proofs.YtbhnaakknfienaaGreatDoor
open Go.RowKit
set_option linter.unusedVariables false

def okW (s : ByteArray) (k : Nat) : Bool := rnOk (cutA s 58) && ((wordsI s).take k).all okI
theorem okW_succ {s v : ByteArray} {k : Nat} (h : (wordsI s)[k]? = some v) : okW s (k + 1) = (okW s k && okI v) := by
  rw [okW, okW, all_take_add okI h, Bool.and_assoc]
theorem ptI_eq (s : ByteArray) : ptI s = if okW s (wordsI s).length && townB (rnV (cutA s 58)) ((wordsI s).map strI) && decide (ttN (rnV (cutA s 58)).toNat ((wordsI s).map strI) ((wordsI s).map strI).length = s) then some (rnV (cutA s 58), (wordsI s).map strI) else none := by
  rw [okW, List.take_length]; rfl

set_option maxRecDepth 100000 in
set_option maxHeartbeats 8000000 in
theorem parseTown_any (s : ByteArray) (w : World) (hs : s.size ≤ 1048576) (he : TxtEnv w) (hf : FldEnv w) :
    Calls Tryz.prog 67 #[.string s] w (TownOut (ptI s) w) := by
  obtain ⟨i0, hi0, hz0, hz1, hz2⟩ := info_parts infoStreetP
  have Hi := hide hi0
  have Hz := hide (And.intro hz0 (And.intro hz1 hz2))
  clear hi0 hz0 hz1 hz2
  have hcs := cut_size s 58
  have HE := hide (fun W (h : Below w.heap.size w W) => he.below h)
  have HF := hide (fun W (h : Below w.heap.size w W) => hf.below h)
  have Q1 := hide (fun W (h : Below w.heap.size w W) => cut_any s 58 W (by omega) (HE.out W h).max)
  have Q2 := hide (fun W (h : Below w.heap.size w W) => readNumber_any (cutA s 58) W (by omega) (HE.out W h).num)
  have Q3 := hide (fun W (h : Below w.heap.size w W) => words_any (cutB s 58) W (by omega) (HF.out W h))
  have QW := hide (fun (v : ByteArray) (hv : v ∈ wordsI s) => Nat.le_trans (wordsF_size hv) (Nat.le_trans hcs.2 hs))
  have QN := hide (show (wordsI s).length ≤ 1048578 from Nat.le_trans (wordsF_length _) (by omega))
  have HV := hide (ptI_eq s)
  have HF0 := hide (Row.new w #[.int .i64 0, .slice none 0 0] 26)
  have H0 := hide (below_alloc (Below.refl w.heap.size w) (.cells #[.int .i64 0, .slice none 0 0] 26))
  have Q3' : Hid (∀ W, Below w.heap.size w W → Calls Tryz.prog 88 #[.string (cutB s 58)] W fun e w' => (∃ g n : Nat, e = .returned (.slice (some ⟨g, 0, none⟩) n n) ∧ n = (wordsI s).length ∧ (W.heap.size ≤ g ∧ g < w'.heap.size) ∧ Rd w' (some ⟨g, 0, none⟩) ((wordsI s).map Value.string)) ∧ Below W.heap.size W w') := Q3
  clear Q3
  have HOK0 := hide (show okW s 0 = rnOk (cutA s 58) by rw [okW]; simp)
  have HSU := hide (fun (v : ByteArray) (k : Nat) (h : (wordsI s)[k]? = some v) => okW_succ h)
  generalize ptI s = o at *
  generalize hWL : wordsI s = L at *
  clear hWL he hf hcs
  go_enter Tryz.func67, Tryz.ntmps67
  go_wp2_with fail
  refine (Q1.out _ H0.out).mono ?_
  rintro e w1 ⟨rfl, hq⟩
  have HB1 := hide (below_step H0.out hq)
  have HF1 := hide (HF0.out.below hq)
  clear hq Q1 HF0 H0
  go_wp2_with fail
  refine (Q2.out _ HB1.out).mono ?_
  rintro e w2 ⟨rfl, hq⟩
  have HB2 := hide (below_step HB1.out hq)
  have HF2 := hide (HF1.out.below hq)
  clear hq Q2 HF1
  generalize rnV (cutA s 58) = nd at *
  go_wp2_with fail
  have HG2 := hide (Row.new w2 #[.int .i64 nd, .slice none 0 0] 26)
  have HF2' := hide (HF2.out.alloc (.cells #[.int .i64 nd, .slice none 0 0] 26))
  have HB2' := hide (below_alloc HB2.out (.cells #[.int .i64 nd, .slice none 0 0] 26))
  have HN2 := hide (show w.heap.size < w2.heap.size from HF2.out.1)
  clear HF2
  refine (Q3'.out _ HB2'.out).mono ?_
  rintro e w3 ⟨⟨gw, n, rfl, hn, hgw, hrd⟩, hq⟩
  have HB3 := hide (below_step HB2'.out hq)
  have HF3 := hide (HF2'.out.below hq)
  have HG3 := hide (HG2.out.below hq)
  have Hn := hide hn
  have HR := hide hrd
  have hn2 : n ≤ 1048578 := by have := QN.out; omega
  replace hgw : w2.heap.size < gw ∧ gw < w3.heap.size := ⟨by have := hgw.1; simp at this; omega, hgw.2⟩
  clear hq hn hrd Q3' HF2' HB2' HG2
  generalize w2.heap.size = B9 at *
  have HLT := hide (show w.heap.size < B9 ∧ B9 < w3.heap.size ∧ B9 < gw ∧ gw < w3.heap.size from ⟨HN2.out, HG3.out.1, hgw⟩)
  have HBN := hide HB3.out.size
  clear hgw
  generalize hN3 : w3.heap.size = N3 at *
  go_wp2_with fail
  go_loopg [40, 8] n (fun g t b wr => ∃ (k : Nat) (A : Option Addr) (cap : Nat), t = .int .i64 (k : Int) ∧ b = .bool (okW s k) ∧ k ≤ n ∧ Hid (n ≤ g + k) ∧ Hid (Row wr B9 [.int .i64 nd, .slice A k cap]) ∧ Hid (wr.ownsRow N3 39 3 (.slice A k cap) k (((L.take k).map strI).flatMap tcells)) ∧ Hid (Row wr w.heap.size [.int .i64 0, .slice none 0 0]) ∧ Hid (Rd wr (some ⟨gw, 0, none⟩) (L.map Value.string)) ∧ Hid (Below w.heap.size w wr) ∧ Hid (N3 ≤ wr.heap.size))
  case atStart => exact ⟨0, none, 0, rfl, by rw [HOK0.out], by omega, hide (by omega), HG3, hide (World.ownsRow_nil _ _ _ _), HF3, HR, HB3, hide (by omega)⟩
  case round =>
    obtain ⟨k, A, cap, rfl, rfl, hk, HGH, HGB, HO, HFB, HRR, HB, HZ⟩ := hrel
    by_cases hlt : k < n
    · obtain ⟨v, hv⟩ : ∃ v, L[k]? = some v := ⟨_, List.getElem?_eq_getElem (by rw [← Hn.out]; exact hlt)⟩
      have hvz := QW.out v (List.mem_of_getElem? hv)
      have hc1 := cut_size v 61
      have hc2 := cut_size (cutA v 61) 45
      have HOK := hide (HSU.out v k hv)
      have HMT := hide (map_take_succ strI hv)
      obtain ⟨b, off, e1, hbs, c0⟩ := HRR.out.get1 (k := k) (u := .string v) (by rw [List.getElem?_map, hv]; rfl)
      injection e1 with e1; injection e1 with e2 e3; subst e2; subst e3
      rw [Nat.zero_add] at c0
      have P1 := hide (cut_any v 61 wr (by omega) (HE.out wr HB.out).max)
      have P2 := hide (fun W (h : Below w.heap.size w W) => cut_any (cutA v 61) 45 W (by omega) (HE.out W h).max)
      have P3 := hide (fun W (h : Below w.heap.size w W) => readNumber_any (cutA (cutA v 61) 45) W (by omega) (HE.out W h).num)
      have P4 := hide (fun W (h : Below w.heap.size w W) => readNumber_any (cutB (cutA v 61) 45) W (by omega) (HE.out W h).num)
      have P5 := hide (fun W (h : Below w.heap.size w W) => readNumber_any (cutB v 61) W (by omega) (HE.out W h).num)
      have HKV := hide (show okI v = (rnOk (cutA (cutA v 61) 45) && rnOk (cutB (cutA v 61) 45) && rnOk (cutB v 61)) from rfl)
      have HSV := hide (show strI v = (rnV (cutA (cutA v 61) 45), rnV (cutB (cutA v 61) 45), rnV (cutB v 61)) from rfl)
      generalize strI v = sv at *
      generalize okI v = kv at *
      clear hv hvz hc1 hc2
      go_wp2_with fail
      refine P1.out.mono ?_
      rintro e x1 ⟨rfl, hq⟩
      have HX := hide hq
      clear hq P1 c0
      go_wp2_with fail
      refine (P2.out _ (below_step HB.out HX.out)).mono ?_
      rintro e x2 ⟨rfl, hq⟩
      replace HX := hide (below_step HX.out hq)
      clear hq P2
      go_wp2_with fail
      refine (P3.out _ (below_step HB.out HX.out)).mono ?_
      rintro e x3 ⟨rfl, hq⟩
      replace HX := hide (below_step HX.out hq)
      clear hq P3
      go_wp2_with fail
      refine (P4.out _ (below_step HB.out HX.out)).mono ?_
      rintro e x4 ⟨rfl, hq⟩
      replace HX := hide (below_step HX.out hq)
      clear hq P4
      go_wp2_with fail
      refine (P5.out _ (below_step HB.out HX.out)).mono ?_
      rintro e x5 ⟨rfl, hq⟩
      replace HX := hide (below_step HX.out hq)
      clear hq P5
      generalize rnV (cutA (cutA v 61) 45) = y0 at *
      generalize rnV (cutB (cutA v 61) 45) = y1 at *
      generalize rnV (cutB v 61) = y2 at *
      generalize rnOk (cutA (cutA v 61) 45) = k0 at *
      generalize rnOk (cutB (cutA v 61) 45) = k1 at *
      generalize rnOk (cutB v 61) = k2 at *
      have HX0 := hide HX.out.size
      have HGX := hide (HGB.out.below HX.out)
      have HFX := hide (HFB.out.below HX.out)
      have HRX := hide (HRR.out.below HX.out)
      have HOX := hide (own_below HO.out HX.out)
      have HBX := hide (below_step HB.out HX.out)
      clear HX HB HRR HFB HGB HO
      have HOA := hide (World.ownsRow.alloc HOX.out (.cells #[.int .i64 y0, .int .i64 y1, .int .i64 y2] 39))
      have HBA := hide (Row.new x5 #[.int .i64 y0, .int .i64 y1, .int .i64 y2] 39)
      have HGA := hide (HGX.out.alloc (.cells #[.int .i64 y0, .int .i64 y1, .int .i64 y2] 39))
      have HFA := hide (HFX.out.alloc (.cells #[.int .i64 y0, .int .i64 y1, .int .i64 y2] 39))
      have HRA := hide (HRX.out.alloc (.cells #[.int .i64 y0, .int .i64 y1, .int .i64 y2] 39))
      have HBW := hide (below_alloc HBX.out (.cells #[.int .i64 y0, .int .i64 y1, .int .i64 y2] 39))
      have HSZ := hide (show N3 ≤ (x5.alloc (.cells #[.int .i64 y0, .int .i64 y1, .int .i64 y2] 39)).heap.size from Nat.le_trans HZ.out (Nat.le_trans HX0.out (by simp)))
      have a1 := HGX.out.at 1 rfl
      have f1 := HGX.out.free 1
      have z1 := HGX.out.1
      clear HGX HFX HRX HOX HBX
      generalize hbk : okW s k = b0 at *
      have HBK := hide hbk
      clear hbk
      have hsplit : b0 = false ∨ (b0 = true ∧ k0 = false) ∨ (b0 = true ∧ k0 = true ∧ k1 = false) ∨ (b0 = true ∧ k0 = true ∧ k1 = true) := by
        cases b0 <;> cases k0 <;> cases k1 <;> simp
      rcases hsplit with rfl | ⟨rfl, rfl⟩ | ⟨rfl, rfl, rfl⟩ | ⟨rfl, rfl, rfl⟩
      all_goals
        go_wp2_with (at_builtin; refine wpList_append_any rfl (.tmp 82) (.tmp 87) 24 rfl N3 39 i0 _ 3 24 Tryz.underlying24 Hi.out Hz.out.1 Hz.out.2.1 Hz.out.2.2 rfl (by decide) (.slice A k cap) k (((L.take k).map strI).flatMap tcells) rfl HOA.out (some ⟨x5.heap.size, 0, none⟩) 1 1 (tcells (y0, y1, y2)) rfl rfl (fun e => by cases e) (fun ad e j u hu => by cases e; rw [Addr.add_lit, Nat.zero_add]; exact HBA.out.2.1 j u hu) (fun u hu => by simp [tcells] at hu; rcases hu with rfl | rfl | rfl <;> rfl) (by unfold maxLen; omega) (by omega) HSZ.out ?_)
        intro v6 w6 hown hgrow
        have HO6 : Hid (w6.ownsRow N3 39 3 v6 (k + 1) (((L.take (k + 1)).map strI).flatMap tcells)) := hide (by rw [HMT.out, List.flatMap_append, HSV.out]; simpa using hown)
        have HNB := hide (fun q hq => (HOA.out.lt q hq).1)
        have HG6 := hide (HGA.out.grown hgrow (fun e => by have h1 := HNB.out _ e.symm; have h2 := HLT.out; omega))
        have HF6 := hide (HFA.out.grown hgrow (fun e => by have h1 := HNB.out _ e.symm; have h2 := HLT.out; omega))
        have HR6 := hide (HRA.out.grown hgrow (fun b off sp e e2 => by injection e with e; injection e with e3 e4 e5; subst e3; have h1 := HNB.out _ e2.symm; have h2 := HLT.out; omega))
        have HB6 := hide (HBW.out.grown hgrow HBW.out.size (fun q hq => by have h1 := HNB.out _ hq; have h2 := HLT.out; omega))
        have HZ6 := hide (Nat.le_trans HSZ.out hgrow.size)
        clear hown hgrow HOA HBA HGA HFA HRA HBW HSZ a1 f1 z1
        obtain ⟨A6, c6, rfl, -⟩ := own_open HO6.out
        have a1 := HG6.out.at 1 rfl
        have f1 := HG6.out.free 1
        have z1 := HG6.out.1
        go_wp2
        go_roundg (gk - 1)
        case rel =>
          have hn6 : ∀ q, (Value.slice A6 (k + 1) c6).ownBlock = some q → N3 ≤ q := fun q hq => (HO6.out.lt q hq).1
          refine ⟨k + 1, A6, c6, by go_num, by rw [HOK.out, HKV.out]; rfl, by omega, hide (by have := HGH.out; omega), hide ((HG6.out.set (by simp) _).cast rfl), hide (own_kept HO6.out (grown_set (g := B9) _ rfl) (fun q hq e => by injection e with e; have h1 := hn6 q hq; have h2 := HLT.out; omega)), hide (HF6.out.grown (grown_set (g := B9) _ rfl) (fun e => by injection e with e; have h2 := HLT.out; omega)), hide (HR6.out.grown (grown_set (g := B9) _ rfl) (fun b off sp e e2 => by injection e with e; injection e with e3 e4 e5; injection e2 with e2; subst e3; have h2 := HLT.out; omega)), hide (HB6.out.setCell (by have h2 := HLT.out; simp; omega) _), hide (by have := HZ6.out; simpa using this)⟩
        case measure => have := HGH.out; omega
    · obtain rfl : k = n := by omega
      have HTK := hide (show (L.take k).map strI = L.map strI by rw [List.take_of_length_le (by have := Hn.out; omega)])
      rw [HTK.out] at HO
      have HFL := hide (show o = if (okW s k && townB nd (L.map strI) && decide (ttN nd.toNat (L.map strI) k = s)) then some (nd, L.map strI) else none by rw [HV.out, ← Hn.out]; simp [← Hn.out])
      have HLen := hide (show k = (L.map strI).length by rw [List.length_map]; exact Hn.out)
      have e0 := HFB.out.at 0 rfl
      have e1 := HFB.out.at 1 rfl
      have f0 := HFB.out.free 0
      have f1 := HFB.out.free 1
      have QT := hide (implisTown_any B9 nd A k cap (L.map strI) wr HLen.out (by unfold maxLen; omega) (own_rd HO.out) HGB.out.1 (HGB.out.at 0 rfl) (HGB.out.at 1 rfl))
      generalize hT : L.map strI = T at *
      clear hT HTK HSU HV QW QN
      cases hk0 : okW s k with
      | false =>
        have HN := hide (show o = none by rw [HFL.out, hk0]; rfl)
        clear hk0 QT
        go_wp2
        exact bodyPost_ret (v := .tuple #[.agg #[.int .i64 0, .slice none 0 0], .bool false]) (by simp [results, Tryz.results67, go_sem, *]) rfl (TownOut.no HN.out ((HB.out.setCell (by simp) _).setCell (by simp) _))
      | true =>
        cases hb : townB nd T with
        | false =>
          have HN := hide (show o = none by rw [HFL.out, hk0, hb]; rfl)
          rw [hb] at QT
          clear hk0 hb e0 e1 f0 f1
          go_wp2_with fail
          refine QT.out.mono ?_
          rintro e w4 ⟨rfl, hq⟩
          have HB4 := hide (below_step HB.out hq)
          have HF4 := hide (HFB.out.below hq)
          have e0 := HF4.out.at 0 rfl
          have e1 := HF4.out.at 1 rfl
          have f0 := HF4.out.free 0
          have f1 := HF4.out.free 1
          clear hq QT
          go_wp2
          exact bodyPost_ret (v := .tuple #[.agg #[.int .i64 0, .slice none 0 0], .bool false]) (by simp [results, Tryz.results67, go_sem, *]) rfl (TownOut.no HN.out ((HB4.out.setCell (by simp) _).setCell (by simp) _))
        | true =>
          obtain ⟨kk, rfl, hK⟩ := townB_ok hb
          rw [hb] at QT
          rw [hk0, hb] at HFL
          have HKK := hide hK
          clear hk0 hb e0 e1 f0 f1 hK
          go_wp2_with fail
          refine QT.out.mono ?_
          rintro e w4 ⟨rfl, hq⟩
          have HB4 := hide (below_step HB.out hq)
          have HF4 := hide (HFB.out.below hq)
          have HG4 := hide (HGB.out.below hq)
          have HO4 := hide (own_below HO.out hq)
          clear hq QT HB HFB HGB HO
          have QX := hide (text_any B9 kk k cap A T w4 HLen.out HKK.out (own_rd HO4.out) (HG4.out.at 0 rfl) (HG4.out.at 1 rfl) (HE.out _ HB4.out).num.tab)
          rw [Int.toNat_natCast] at HFL
          generalize ttN kk T k = x at *
          go_wp2_with fail
          refine QX.out.mono ?_
          rintro e w5 ⟨rfl, hq⟩
          have HB5 := hide (below_step HB4.out hq)
          have HF5 := hide (HF4.out.below hq)
          have HG5 := hide (HG4.out.below hq)
          have HO5 := hide (own_below HO4.out hq)
          have e0 := HF5.out.at 0 rfl
          have e1 := HF5.out.at 1 rfl
          have f0 := HF5.out.free 0
          have f1 := HF5.out.free 1
          have d0 := HG5.out.at 0 rfl
          have d1 := HG5.out.at 1 rfl
          clear hq QX HB4 HF4 HG4 HO4
          by_cases hx : x = s
          · subst hx
            have HS := hide (show o = some ((kk : Int), T) by rw [HFL.out]; simp)
            have HOE := hide (own_le (B' := w.heap.size) HO5.out (by have := HLT.out; omega))
            have HOL := hide (fun q hq => (HO5.out.lt q hq).1)
            have HKP : Hid (∀ (W : World) (o : Nat) (u : Value), W.ownsRow w.heap.size 39 3 (.slice A k cap) k (T.flatMap tcells) → (W.setCell ⟨w.heap.size, o, none⟩ u).ownsRow w.heap.size 39 3 (.slice A k cap) k (T.flatMap tcells)) := hide (fun W o u h => own_kept h (grown_set (g := w.heap.size) u rfl) (fun q hq e => by injection e with e; have h1 := HOL.out q hq; have h2 := HLT.out; omega))
            clear HOL
            go_wp2
            exact bodyPost_ret (v := .tuple #[.agg #[.int .i64 (kk : Int), .slice A k cap], .bool true]) (by simp [results, Tryz.results67, go_sem, *]) rfl (TownOut.yes HS.out (by rw [← HLen.out]; exact HKP.out _ _ _ (HKP.out _ _ _ HOE.out)) ((HB5.out.setCell (by simp) _).setCell (by simp) _))
          · have HN := hide (show o = none by rw [HFL.out]; simp [hx])
            have hne := texts_ne hx
            clear hx
            go_wp2
            exact bodyPost_ret (v := .tuple #[.agg #[.int .i64 0, .slice none 0 0], .bool false]) (by simp [results, Tryz.results67, go_sem, *]) rfl (TownOut.no HN.out ((HB5.out.setCell (by simp) _).setCell (by simp) _))
end Go.Proofs.YtbhnaakknfienaaGreatDoor
namespace Go.Proofs.YtbhnaakknfienaaGreatDoor
open Go.RowKit
set_option linter.unusedVariables false

theorem outL_le (s : ByteArray) : (outL (ptS s)).length ≤ 1048576 := by
  cases h : ptS s with
  | none => simp [outL]
  | some x =>
    obtain ⟨k, -, hk⟩ := townB_ok (ptS_some (nd := x.1) (l := x.2) h).1
    have := hk.len
    show x.2.length ≤ 1048576
    omega

set_option maxHeartbeats 2000000 in
theorem implParseTown_any (s : ByteArray) (w : World) (hs : s.size ≤ 1048576) (he : WrdEnv w) :
    Calls Tryz.prog 27 #[.string s] w (TownOut (ptI s) w) := by
  have HF0 := hide (Row.new w #[.int .i64 0, .slice none 0 0] 26)
  have H0 := hide (below_alloc (Below.refl w.heap.size w) (.cells #[.int .i64 0, .slice none 0 0] 26))
  have Q := hide (parseTown_any s (w.alloc (.cells #[.int .i64 0, .slice none 0 0] 26)) hs (he.txt.below H0.out) (he.fld.below H0.out))
  generalize ptI s = o at *
  clear he
  go_enter Tryz.func27, Tryz.ntmps27
  go_wp2_with fail
  refine Q.out.mono ?_
  rintro e w1 ⟨⟨v, rfl, ho⟩, hq⟩
  have HB := hide (below_step H0.out hq)
  have HF := hide (HF0.out.below hq)
  have HLQ := hide (fun q hq => (ho.lt q hq).1)
  have HO := hide (own_le (B' := w.heap.size) ho (by simp))
  have HKP : Hid (∀ (W : World) (o1 : Nat) (u : Value), W.ownsRow w.heap.size 39 3 v (outL o).length ((outL o).flatMap tcells) → (W.setCell ⟨w.heap.size, o1, none⟩ u).ownsRow w.heap.size 39 3 v (outL o).length ((outL o).flatMap tcells)) := hide (fun W o1 u h => own_kept h (grown_set (g := w.heap.size) u rfl) (fun q hq e => by injection e with e; have h1 := HLQ.out q hq; simp at h1; omega))
  obtain ⟨A, cap, rfl, -⟩ := own_open ho
  have e0 := HF.out.at 0 rfl
  have e1 := HF.out.at 1 rfl
  have f0 := HF.out.free 0
  have f1 := HF.out.free 1
  clear hq ho Q HF0 H0 HLQ
  generalize hn : outN o = nd at *
  generalize hl : outL o = l at *
  generalize hb : o.isSome = b at *
  have HN := hide (And.intro hn (And.intro hl hb))
  clear hn hl hb
  go_wp2
  exact bodyPost_ret (v := .tuple #[.agg #[.int .i64 nd, .slice A l.length cap], .bool b]) (by simp [results, Tryz.results27, go_sem, *]) rfl ⟨⟨_, by rw [HN.out.1, HN.out.2.2], by rw [HN.out.2.1]; exact HKP.out _ _ _ (HKP.out _ _ _ HO.out)⟩, (HB.out.setCell (by simp) _).setCell (by simp) _⟩
end Go.Proofs.YtbhnaakknfienaaGreatDoor
namespace Go.Proofs.YtbhnaakknfienaaGreatDoor
open Go.RowKit
set_option linter.unusedVariables false

section
variable {P : Program} {ops : Array Oper} {Q : Exit → Act → World → Prop} {md : Region.Mode} {S : World → Prop} {X : List Nat}
theorem wpAnyX_three (i j k : Nat) {oi oj ok : Oper} {fuel : Nat} {listed li lj lk : Array Bool} {a : Act} {w : World} (hr : Region.ready md ops listed = [i, j, k]) (hoi : ops[i]? = some oi) (hoj : ops[j]? = some oj) (hok : ops[k]? = some ok) (hLi : listed.setIfInBounds i true = li) (hLj : listed.setIfInBounds j true = lj) (hLk : listed.setIfInBounds k true = lk) (hgi : oi.guard = none) (hgj : oj.guard = none) (hgk : ok.guard = none)
    (h1 : ∀ K : Act → World → Prop, (∀ a w', (S w' ∧ wpAnyX P md ops Q S X fuel li a w') → K a w') → Oper.wp P oi a w K Q)
    (h2 : ∀ K : Act → World → Prop, (∀ a w', (S w' ∧ wpAnyX P md ops Q S X fuel lj a w') → K a w') → Oper.wp P oj a w K Q)
    (h3 : ∀ K : Act → World → Prop, (∀ a w', (S w' ∧ wpAnyX P md ops Q S X fuel lk a w') → K a w') → Oper.wp P ok a w K Q) :
    wpAnyX P md ops Q S X (fuel + 1) listed a w := by
  refine wpAnyX_all hr (by simp) fun m hm => ?_
  simp only [List.mem_cons, List.not_mem_nil, or_false] at hm
  rcases hm with rfl | rfl | rfl
  · refine wpOp_step hoi (fun K' hK => ?_)
    rw [if_pos (by simp [Region.wanted, hgi])]
    refine h1 K' (fun a' w' ⟨hS, hW⟩ => hK _ _ ⟨.inl hS, ?_⟩)
    rw [hLi]
    exact hW
  · refine wpOp_step hoj (fun K' hK => ?_)
    rw [if_pos (by simp [Region.wanted, hgj])]
    refine h2 K' (fun a' w' ⟨hS, hW⟩ => hK _ _ ⟨.inl hS, ?_⟩)
    rw [hLj]
    exact hW
  · refine wpOp_step hok (fun K' hK => ?_)
    rw [if_pos (by simp [Region.wanted, hgk])]
    refine h3 K' (fun a' w' ⟨hS, hW⟩ => hK _ _ ⟨.inl hS, ?_⟩)
    rw [hLk]
    exact hW
end

set_option maxRecDepth 100000 in
set_option maxHeartbeats 4000000 in
theorem toStreetOf_any (s : ByteArray) (w : World) (hs : s.size ≤ 2000000) :
    Calls Tryz.prog 70 #[.string s] w fun e w' => e = .returned (.agg #[.int .i64 (strS s).1, .int .i64 (strS s).2.1, .int .i64 (strS s).2.2]) ∧ Below w.heap.size w w' := by
  obtain ⟨x0, xs, hx⟩ : ∃ x0 xs, splitS s 61 = x0 :: xs := by
    cases h : splitS s 61 with
    | nil => have := splitS_pos s 61; rw [h] at this; simp at this
    | cons a b => exact ⟨a, b, rfl⟩
  have hxz : x0.size ≤ 2000000 := Nat.le_trans (splitS_size s 61 (by rw [hx]; exact List.mem_cons_self ..)) hs
  have Q := hide (split_any s 61)
  have Q2 := hide (fun W => split_any x0 45 W hxz)
  have HX := hide hx
  clear hx
  have HF := hide (Row.new w #[.int .i64 0, .int .i64 0, .int .i64 0] 39)
  have H0 := hide (below_alloc (Below.refl w.heap.size w) (.cells #[.int .i64 0, .int .i64 0, .int .i64 0] 39))
  go_enter Tryz.func70, Tryz.ntmps70
  go_wp2_with fail
  refine (Q.out _ hs).mono ?_
  rintro e w1 ⟨⟨v, rfl, ho⟩, hq⟩
  rw [HX.out] at ho
  obtain ⟨A, cap, rfl, hrd, -⟩ := own_open ho
  obtain ⟨b, off, rfl, hbs, c0⟩ := hrd.get1 (k := 0) (u := .string x0) rfl
  have c0 : w1.cell? ⟨b, off, none⟩ = some (.string x0) := c0
  have HR := hide hrd
  have HB := hide hq
  clear ho hq hrd
  go_wp2_with fail
  refine (Q2.out _).mono ?_
  rintro e w2 ⟨⟨v, rfl, ho⟩, hq⟩
  obtain ⟨A2, cap2, rfl, hrd, -⟩ := own_open ho
  have HR2 := hide hrd
  have HR1 := hide (HR.out.below hq)
  have HF2 := hide ((HF.out.below HB.out).below hq)
  have HB2 := hide (below_step (below_step H0.out HB.out) hq)
  clear ho hq hrd c0 Q Q2
  by_cases h1 : xs.length = 1
  · by_cases h2 : (splitS x0 45).length = 2
    · obtain ⟨x1, rfl⟩ := List.length_eq_one_iff.1 h1
      obtain ⟨y0, y1, hu⟩ : ∃ y0 y1, splitS x0 45 = [y0, y1] := by
        match hq : splitS x0 45, h2 with
        | [a, b], _ => exact ⟨a, b, rfl⟩
      have HV := hide (show strS s = (readS y0, readS y1, readS x1) by
        unfold strS
        rw [HX.out]
        show (if [x0, x1].length = 2 ∧ (splitS x0 45).length = 2 then (readS ((splitS x0 45).getD 0 ByteArray.empty), readS ((splitS x0 45).getD 1 ByteArray.empty), readS x1) else (-1, 0, 0)) = _
        rw [hu]; rfl)
      have zx1 : x1.size ≤ maxLen := by
        have := splitS_size s 61 (x := x1) (by rw [HX.out]; simp)
        unfold maxLen; omega
      have zy0 : y0.size ≤ maxLen := by
        have := splitS_size x0 45 (x := y0) (by rw [hu]; simp)
        unfold maxLen; omega
      have zy1 : y1.size ≤ maxLen := by
        have := splitS_size x0 45 (x := y1) (by rw [hu]; simp)
        unfold maxLen; omega
      have E0 := hide (fun W => read_any y0 W zy0)
      have E1 := hide (fun W => read_any y1 W zy1)
      have E2 := hide (fun W => read_any x1 W zx1)
      rw [hu] at HR2 ⊢
      clear h1 h2 hu zx1 zy0 zy1
      obtain ⟨b2, off2, rfl, hbs2, d0⟩ := HR2.out.get1 (k := 0) (u := .string y0) rfl
      obtain ⟨b3, off3, e3, hbs3, d1⟩ := HR2.out.get1 (k := 1) (u := .string y1) rfl
      injection e3 with e3; injection e3 with e4 e5; subst e4; subst e5
      obtain ⟨b4, off4, e3, hbs4, c1⟩ := HR1.out.get1 (k := 1) (u := .string x1) rfl
      injection e3 with e3; injection e3 with e4 e5; subst e4; subst e5
      have d0 : w2.cell? ⟨b2, off2, none⟩ = some (.string y0) := d0
      have HZ := hide (show w.heap.size < w2.heap.size from HF2.out.1)
      clear hbs
      go_wp2_with fail
      refine wpAnyX_start (fun w' => ∃ n : Later w2, w' = n.w) [13] (n := 14) (by kernel_rfl) rfl rfl ?_
      refine wpAnyX_take [0, 1, 2, 4, 5, 6, 8, 9, 10] 5 rfl (by kernel_rfl) (by intro c a d v w h; cases d <;> exact h) (by kernel_rfl) (by kernel_rfl) (by kernel_rfl) (by simp; rfl) rfl (later_drew _) ?_
      repeat (go_big_quiet_step (fail))
      refine wpQuiet_nil ?_
      clear d0 d1 c1
      have HG : Hid (Below w2.heap.size w2 w2.drew) := hide (Below.refl _ _).drew
      generalize w2.drew = V0 at *
      refine wpAnyX_only 3 (by kernel_rfl) (by simp; rfl) rfl rfl (fun K hK => ?_)
      go_wp2_with fail
      refine (E0.out _).mono ?_
      rintro e V3 ⟨rfl, hb⟩
      replace HG := hide (below_step HG.out hb)
      clear hb
      go_wp2_with fail
      refine ⟨later_of HG.out, ?_⟩
      refine wpAnyX_only 7 (by kernel_rfl) (by simp; rfl) rfl rfl (fun K hK => ?_)
      go_wp2_with fail
      refine (E1.out _).mono ?_
      rintro e V7 ⟨rfl, hb⟩
      replace HG := hide (below_step HG.out hb)
      clear hb
      go_wp2_with fail
      refine ⟨later_of HG.out, ?_⟩
      refine wpAnyX_only 11 (by kernel_rfl) (by simp; rfl) rfl rfl (fun K hK => ?_)
      go_wp2_with fail
      refine (E2.out _).mono ?_
      rintro e V11 ⟨rfl, hb⟩
      replace HG := hide (below_step HG.out hb)
      clear hb
      go_wp2_with fail
      refine ⟨later_of HG.out, ?_⟩
      refine wpAnyX_take [12] 1 rfl (by kernel_rfl) (by intro c a d v w h; cases d <;> exact h) (by kernel_rfl) (by kernel_rfl) (by kernel_rfl) (by simp; rfl) rfl (later_of HG.out) ?_
      repeat (go_big_quiet_step (fail))
      refine wpQuiet_nil ?_
      refine wpAnyX_last 13 (by kernel_rfl) (by simp; rfl) rfl rfl (by kernel_rfl) (fun K hK => ?_)
      have HFx := hide (HF2.out.below HG.out)
      have HBx := hide (below_step HB2.out HG.out)
      have r0 := HFx.out.2.1 0 _ rfl
      have r1 := HFx.out.2.1 1 _ rfl
      have r2 := HFx.out.2.1 2 _ rfl
      have f0 := HFx.out.free 0
      have f1 := HFx.out.free 1
      have f2 := HFx.out.free 2
      go_wp2_with fail
      refine wpAnyX_done (by kernel_rfl) ?_ _
      go_wp2
      exact bodyPost_ret (v := .agg #[.int .i64 (readS y0), .int .i64 (readS y1), .int .i64 (readS x1)]) (by simp [results, Tryz.results70, go_sem, *]) rfl ⟨by rw [HV.out], ((HBx.out.setCell (by simp) _).setCell (by simp) _).setCell (by simp) _⟩
    · have HV := hide (show strS s = (-1, 0, 0) by
        unfold strS
        rw [HX.out]
        exact if_neg (fun hh => h2 hh.2))
      have g1 : (xs.length : Int) = 1 := by omega
      have g2 : ((splitS x0 45).length : Int) ≠ 2 := by omega
      generalize (splitS x0 45).length = m2 at *
      have r0 := HF2.out.2.1 0 _ rfl
      have r1 := HF2.out.2.1 1 _ rfl
      have r2 := HF2.out.2.1 2 _ rfl
      have f0 := HF2.out.free 0
      have f1 := HF2.out.free 1
      have f2 := HF2.out.free 2
      have HZ := hide (show w.heap.size < w2.heap.size from HF2.out.1)
      clear h1 h2
      go_wp2
      exact bodyPost_ret (v := .agg #[.int .i64 (-1), .int .i64 0, .int .i64 0]) (by simp [results, Tryz.results70, go_sem, *]) rfl ⟨by rw [HV.out], ((HB2.out.setCell (by simp) _).setCell (by simp) _).setCell (by simp) _⟩
  · have HV := hide (show strS s = (-1, 0, 0) by
      unfold strS
      rw [HX.out]
      exact if_neg (fun hh => h1 (by have := hh.1; simpa using this)))
    have g1 : (xs.length : Int) ≠ 1 := by omega
    have r0 := HF2.out.2.1 0 _ rfl
    have r1 := HF2.out.2.1 1 _ rfl
    have r2 := HF2.out.2.1 2 _ rfl
    have f0 := HF2.out.free 0
    have f1 := HF2.out.free 1
    have f2 := HF2.out.free 2
    have HZ := hide (show w.heap.size < w2.heap.size from HF2.out.1)
    generalize xs.length = m1 at *
    clear h1
    go_wp2
    exact bodyPost_ret (v := .agg #[.int .i64 (-1), .int .i64 0, .int .i64 0]) (by simp [results, Tryz.results70, go_sem, *]) rfl ⟨by rw [HV.out], ((HB2.out.setCell (by simp) _).setCell (by simp) _).setCell (by simp) _⟩
end Go.Proofs.YtbhnaakknfienaaGreatDoor
namespace Go.Proofs.YtbhnaakknfienaaGreatDoor
open Go.RowKit
set_option linter.unusedVariables false

theorem ptS_no1 {s : ByteArray} (h : 600 < s.size) : ptS s = none := by rw [ptS, decide_eq_false (by omega)]; rfl
theorem ptS_no2 {s : ByteArray} (h : 41 < (splitS s 32).length) : ptS s = none := by
  rw [ptS, decide_eq_false (show ¬ (splitS s 32).length ≤ 41 by omega)]
  simp
theorem ptS_no3 {s x : ByteArray} {xs : List ByteArray} (h : splitS s 32 = x :: xs) (h2 : x.size < 2) : ptS s = none := by
  rw [ptS, h, decide_eq_false (show ¬ 2 ≤ ((x :: xs).headD ByteArray.empty).size by show ¬ 2 ≤ x.size; omega)]
  simp
theorem ptS_eq {s x : ByteArray} {xs : List ByteArray} (h : splitS s 32 = x :: xs) (h1 : s.size ≤ 600) (h2 : xs.length ≤ 40) (h3 : 2 ≤ x.size) : ptS s = if townB (readS (headS x)) (xs.map strS) && decide (ttN (readS (headS x)).toNat (xs.map strS) (xs.map strS).length = s) then some (readS (headS x), xs.map strS) else none := by
  have e1 : ptNd s = readS (headS x) := by rw [ptNd, h]; rfl
  have e2 : ptL s = xs.map strS := by rw [ptL, h]; rfl
  have e3 : decide ((splitS s 32).length ≤ 41) = true := decide_eq_true (by rw [h, List.length_cons]; omega)
  have e4 : decide (2 ≤ ((splitS s 32).headD ByteArray.empty).size) = true := decide_eq_true (by rw [h]; exact h3)
  rw [ptS, e1, e2, e3, e4, decide_eq_true h1]
  rfl

set_option maxRecDepth 100000 in
set_option maxHeartbeats 8000000 in
theorem specParseTown_any (s : ByteArray) (w : World) (hs : s.size ≤ 1048576) :
    Calls Tryz.prog 28 #[.string s] w (TownOut (ptS s) w) := by
  obtain ⟨x, xs, hx⟩ : ∃ x xs, splitS s 32 = x :: xs := by
    cases h : splitS s 32 with
    | nil => have := splitS_pos s 32; rw [h] at this; simp at this
    | cons a b => exact ⟨a, b, rfl⟩
  have Q := hide (fun W => split_any s 32 W (by omega))
  have HF0 := hide (Row.new w #[.int .i64 0, .slice none 0 0] 26)
  have H0 := hide (below_alloc (Below.refl w.heap.size w) (.cells #[.int .i64 0, .slice none 0 0] 26))
  have HXZ := hide (fun y (hy : y ∈ x :: xs) => show y.size ≤ s.size from splitS_size s 32 (by rw [hx]; exact hy))
  have HL := hide (show xs.length ≤ s.size from by have := splitS_len s 32; rw [hx, List.length_cons] at this; omega)
  have N1 := hide (fun h => ptS_no1 (s := s) h)
  have N2 := hide (fun (h : 40 < xs.length) => ptS_no2 (s := s) (by rw [hx, List.length_cons]; omega))
  have N3 := hide (fun h => ptS_no3 hx h)
  have N4 := hide (fun h1 h2 h3 => ptS_eq hx h1 h2 h3)
  rw [hx] at Q
  generalize ptS s = o at *
  clear hx
  go_enter Tryz.func28, Tryz.ntmps28
  go_wp2_with fail
  refine (Q.out _).mono ?_
  rintro e w1 ⟨⟨v, rfl, ho⟩, hq⟩
  obtain ⟨A, cap, rfl, hrd, hmc, -⟩ := own_open ho
  obtain ⟨b, off, rfl, hbs, c0⟩ := hrd.get1 (k := 0) (u := .string x) rfl
  have c0 : w1.cell? ⟨b, off, none⟩ = some (.string x) := c0
  have HR := hide hrd
  have HB := hide (below_step H0.out hq)
  have HF := hide (HF0.out.below hq)
  have hxz := HXZ.out x (by simp)
  have hl := HL.out
  have HA := hide (ho.lt b rfl)
  clear ho hq hrd Q H0 HF0
  have HBAD : (600 < s.size ∨ 40 < xs.length ∨ x.size < 2) → ∀ _ : o = none, True := fun _ _ => trivial
  clear HBAD
  by_cases h1 : 600 < s.size
  · have HN := hide (N1.out h1)
    have g1 : (600 : Int) < (s.size : Int) := by omega
    have e0 := HF.out.at 0 rfl
    have e1 := HF.out.at 1 rfl
    have f0 := HF.out.free 0
    have f1 := HF.out.free 1
    clear h1 N1 N2 N3 N4
    go_wp2
    exact bodyPost_ret (v := .tuple #[.agg #[.int .i64 0, .slice none 0 0], .bool false]) (by simp [results, Tryz.results28, go_sem, *]) rfl (TownOut.no HN.out ((HB.out.setCell (by simp) _).setCell (by simp) _))
  · have g1 : ¬ (600 : Int) < (s.size : Int) := by omega
    by_cases h2 : 40 < xs.length
    · have HN := hide (N2.out h2)
      have g2 : (41 : Int) < (((x :: xs).length : Nat) : Int) := by rw [List.length_cons]; omega
      have e0 := HF.out.at 0 rfl
      have e1 := HF.out.at 1 rfl
      have f0 := HF.out.free 0
      have f1 := HF.out.free 1
      clear h1 h2 N1 N2 N3 N4
      generalize hm : (x :: xs).length = m at *
      go_wp2
      exact bodyPost_ret (v := .tuple #[.agg #[.int .i64 0, .slice none 0 0], .bool false]) (by simp [results, Tryz.results28, go_sem, *]) rfl (TownOut.no HN.out ((HB.out.setCell (by simp) _).setCell (by simp) _))
    · have g2 : ¬ (41 : Int) < (((x :: xs).length : Nat) : Int) := by rw [List.length_cons]; omega
      have g3 : 0 < (x :: xs).length := by simp
      by_cases h3 : x.size < 2
      · have HN := hide (N3.out h3)
        have g4 : (x.size : Int) < 2 := by omega
        have e0 := HF.out.at 0 rfl
        have e1 := HF.out.at 1 rfl
        have f0 := HF.out.free 0
        have f1 := HF.out.free 1
        clear h1 h2 h3 N1 N2 N3 N4
        generalize hm : (x :: xs).length = m at *
        have g5 : (0 : Int) < (m : Int) := by omega
        go_wp2
        exact bodyPost_ret (v := .tuple #[.agg #[.int .i64 0, .slice none 0 0], .bool false]) (by simp [results, Tryz.results28, go_sem, *]) rfl (TownOut.no HN.out ((HB.out.setCell (by simp) _).setCell (by simp) _))
      · have HV := hide (N4.out (by omega) (by omega) (by omega))
        have g4 : ¬ (x.size : Int) < 2 := by omega
        have hx2 : 2 ≤ x.size := by omega
        have hx6 : x.size ≤ 600 := by omega
        have hl4 : xs.length ≤ 40 := by omega
        clear h1 h2 h3 N1 N2 N3 N4 hxz hl
        generalize hm : (x :: xs).length = m at *
        have HM := hide (show m = xs.length + 1 by rw [← hm, List.length_cons])
        have g5 : (0 : Int) < (m : Int) := by omega
        clear hm
        have QH := hide (fun W => read_any (headS x) W (by have h1 : (headS x).size ≤ x.size := (by rw [headS, ByteArray.size_extract]; omega); unfold maxLen; omega))
        have HHD := hide (show x.extract 0 (x.size - 1) = headS x from rfl)
        have j1 : ((x.size : Int) - 1).toNat = x.size - 1 := by omega
        have j2 : (0 : Int) ≤ (x.size : Int) - 1 := by omega
        have j3 : (x.size : Int) - 1 ≤ (x.size : Int) := by omega
        go_upto_region 4 with fail
        go_cut [5] (fun s5 wx => ∃ tb : Nat, s5 = .pointer (some ⟨tb, 0, none⟩) ∧ Hid (w1.heap.size ≤ tb) ∧ Hid (Row wx tb [.int .i64 (readS (headS x)), .slice none 0 0]) ∧ Hid (Below w1.heap.size w1 wx))
        case first => as_aux_lemma =>
          go_wp2_with fail
          refine wpAnyS_start (fun w' => ∃ n : Later w1, w' = n.w) (n := 13) (by kernel_rfl) rfl rfl ?_
          refine wpAnyS_take_all [0, 1, 2, 3, 4, 5, 6, 7, 8] 4 rfl (by kernel_rfl) (by intro c a d v w h; cases d <;> exact h) (by kernel_rfl) (by simp; rfl) rfl (later_drew _) ?_
          repeat (go_big_quiet_step (fail))
          refine wpQuiet_nil ?_
          clear c0
          have HG : Hid (Below w1.heap.size w1 w1.drew) := hide (Below.refl _ _).drew
          generalize w1.drew = V0 at *
          refine wpAnyN_two 9 11 (by kernel_rfl) (by simp; rfl) (by simp; rfl) rfl rfl rfl rfl (fun K hK => ?_) (fun K hK => ?_)
          · go_wp2_with fail
            rw [HHD.out]
            refine (QH.out _).mono ?_
            rintro e V1 ⟨rfl, hb⟩
            replace HG := hide (below_step HG.out hb)
            clear hb
            go_wp2_with fail
            refine ⟨later_of HG.out, ?_⟩
            refine wpAnyS_take_all [10] 2 rfl (by kernel_rfl) (by intro c a d v w h; cases d <;> exact h) (by kernel_rfl) (by simp; rfl) rfl (later_of HG.out) ?_
            repeat (go_big_quiet_step (fail))
            refine wpQuiet_nil ?_
            refine wpAnyS_only 11 (by kernel_rfl) (by simp; rfl) rfl rfl (fun K hK => ?_)
            go_wp2_with fail
            have HX := hide (Row.new V1 #[.int .i64 0, .slice none 0 0] 26)
            have HTL : Hid (w1.heap.size ≤ V1.heap.size) := hide HG.out.size
            replace HG := hide (below_alloc HG.out (.cells #[.int .i64 0, .slice none 0 0] 26))
            refine ⟨later_of HG.out, ?_⟩
            generalize V1.alloc (.cells #[.int .i64 0, .slice none 0 0] 26) = V9 at *
            generalize V1.heap.size = tb at *
            refine wpAnyS_only 12 (by kernel_rfl) (by simp; rfl) rfl rfl (fun K hK => ?_)
            have t0 := HX.out.at 0 rfl
            have t1 := HX.out.at 1 rfl
            have q0 := HX.out.free 0
            have q1 := HX.out.free 1
            have qz := HX.out.1
            go_wp2_with fail
            have HG9 : Hid (Below w1.heap.size w1 ((V9.setCell ⟨tb, 0, none⟩ (.int .i64 (readS (headS x)))).setCell ⟨tb, 1, none⟩ (.slice none 0 0))) := hide ((HG.out.setCell HTL.out _).setCell HTL.out _)
            refine ⟨later_of HG9.out, ?_⟩
            refine wpAnyH_done (by kernel_rfl) ?_ _
            go_wp2_with fail
            go_meet
            exact ⟨tb, rfl, HTL, hide ((HX.out.set (k := 0) (by simp) _).set (k := 1) (by simp) _), HG9⟩
          · go_wp2_with fail
            have HX := hide (Row.new V0 #[.int .i64 0, .slice none 0 0] 26)
            have HTL : Hid (w1.heap.size ≤ V0.heap.size) := hide HG.out.size
            replace HG := hide (below_alloc HG.out (.cells #[.int .i64 0, .slice none 0 0] 26))
            refine ⟨later_of HG.out, ?_⟩
            generalize V0.alloc (.cells #[.int .i64 0, .slice none 0 0] 26) = V9 at *
            generalize V0.heap.size = tb at *
            refine wpAnyS_only 9 (by kernel_rfl) (by simp; rfl) rfl rfl (fun K hK => ?_)
            go_wp2_with fail
            rw [HHD.out]
            refine (QH.out _).mono ?_
            rintro e V1 ⟨rfl, hb⟩
            replace HX := hide (HX.out.below hb)
            replace HG := hide (below_step HG.out hb)
            clear hb
            go_wp2_with fail
            refine ⟨later_of HG.out, ?_⟩
            refine wpAnyS_take_all [10] 1 rfl (by kernel_rfl) (by intro c a d v w h; cases d <;> exact h) (by kernel_rfl) (by simp; rfl) rfl (later_of HG.out) ?_
            repeat (go_big_quiet_step (fail))
            refine wpQuiet_nil ?_
            refine wpAnyS_only 12 (by kernel_rfl) (by simp; rfl) rfl rfl (fun K hK => ?_)
            have t0 := HX.out.at 0 rfl
            have t1 := HX.out.at 1 rfl
            have q0 := HX.out.free 0
            have q1 := HX.out.free 1
            have qz := HX.out.1
            go_wp2_with fail
            have HG9 : Hid (Below w1.heap.size w1 ((V1.setCell ⟨tb, 0, none⟩ (.int .i64 (readS (headS x)))).setCell ⟨tb, 1, none⟩ (.slice none 0 0))) := hide ((HG.out.setCell HTL.out _).setCell HTL.out _)
            refine ⟨later_of HG9.out, ?_⟩
            refine wpAnyH_done (by kernel_rfl) ?_ _
            go_wp2_with fail
            go_meet
            exact ⟨tb, rfl, HTL, hide ((HX.out.set (k := 0) (by simp) _).set (k := 1) (by simp) _), HG9⟩
        case rest =>
          obtain ⟨tb, rfl, HTL, HT, HBC⟩ := hcut
          rename World => wc
          have HF2 := hide (HF.out.below HBC.out)
          have HR2 := hide (HR.out.below HBC.out)
          have HB2 := hide (below_step HB.out HBC.out)
          have HFT := hide (show w.heap.size < tb by have h1 := HF.out.1; have h2 := HTL.out; omega)
          have HLT := hide (show b < tb by have h1 := HA.out; have h2 := HTL.out; omega)
          have HN3 := hide (show tb < wc.heap.size from HT.out.1)
          obtain ⟨i0, hi0, hz0, hz1, hz2⟩ := info_parts infoStreetP
          have Hi := hide hi0
          have Hz := hide (And.intro hz0 (And.intro hz1 hz2))
          clear hi0 hz0 hz1 hz2 HB HF HR HBC QH HHD j1 j2 j3 c0 g1 g4
          generalize readS (headS x) = nd at *
          have HRX := hide (show Rd wc (some ⟨b, off + 1, none⟩) (xs.map Value.string) from by
            rcases HR2.out with h | ⟨b', off', e, hc⟩
            · cases h
            · injection e with e
              injection e with e1 e2
              subst e1 e2
              exact .inr ⟨_, _, rfl, fun j u hu => by rw [Nat.add_assoc, Nat.add_comm 1 j]; exact hc (j + 1) u (by simpa [strV] using hu)⟩)
          have HNIL := hide (show m = 1 → xs = [] from fun h => List.eq_nil_of_length_eq_zero (by have := HM.out; omega))
          go_upto_region 5 with fail
          go_cut [38, 39, 40] (fun s38 s39 s40 wx => ∃ o2 c2 : Nat, s38 = .slice (some ⟨b, o2, none⟩) (m - 1) c2 ∧ s39 = .int .i64 ((m - 1 : Nat) : Int) ∧ s40 = .int .i64 0 ∧ Hid (Rd wx (some ⟨b, o2, none⟩) (xs.map Value.string)) ∧ Hid (Below wc.heap.size wc wx))
          case first =>
            by_cases hcap : cap = 1
            · subst hcap
              go_wp2_with fail
              go_meet
              exact ⟨off, 0, (by rw [show m - 1 = 0 by omega]), (by rw [show m - 1 = 0 by omega]; rfl), rfl, hide (by rw [HNIL.out (by omega)]; exact Rd.nil _ _), hide (Below.refl _ _)⟩
            · go_wp2_with fail
              go_meet
              exact ⟨_, _, rfl, rfl, rfl, HRX, hide (Below.refl _ _)⟩
          case rest =>
            obtain ⟨o2, c2, rfl, rfl, rfl, HRW, HBD⟩ := hcut
            rename World => wd
            replace HF2 := hide (HF2.out.below HBD.out)
            replace HT := hide (HT.out.below HBD.out)
            replace HB2 := hide (below_step HB2.out HBD.out)
            replace HN3 := hide (show tb < wd.heap.size from HT.out.1)
            clear HBD HR2 HRX HNIL
            obtain ⟨k, hk⟩ : ∃ k, k = m - 1 := ⟨_, rfl⟩
            have Hk := hide (show k = xs.length by have := HM.out; omega)
            have hk40 : k ≤ 40 := by have := HM.out; omega
            rw [← hk]
            clear hk
            generalize hN3 : wd.heap.size = N3 at HN3
            have HZ0 := hide (Nat.le_of_eq hN3.symm)
            have QW := hide (fun (v : ByteArray) (hv : v ∈ xs) => show v.size ≤ 2000000 by have h1 := HXZ.out v (List.mem_cons_of_mem _ hv); omega)
            have HB0 := hide (show w.heap.size ≤ N3 by have h1 := HFT.out; have h2 := HN3.out; omega)
            go_wp2_with fail
            go_loopg [40] k (fun g t wr => ∃ (j : Nat) (A : Option Addr) (cp : Nat), t = .int .i64 (j : Int) ∧ j ≤ k ∧ Hid (k ≤ g + j) ∧ Hid (Row wr tb [.int .i64 nd, .slice A j cp]) ∧ Hid (wr.ownsRow N3 39 3 (.slice A j cp) j (((xs.take j).map strS).flatMap tcells)) ∧ Hid (Row wr w.heap.size [.int .i64 0, .slice none 0 0]) ∧ Hid (Rd wr (some ⟨b, o2, none⟩) (xs.map Value.string)) ∧ Hid (Below w.heap.size w wr) ∧ Hid (N3 ≤ wr.heap.size))
            case atStart => exact ⟨0, none, 0, rfl, by omega, hide (by omega), HT, hide (World.ownsRow_nil _ _ _ _), HF2, HRW, HB2, HZ0⟩
            case round =>
              obtain ⟨j, A, cp, rfl, hj, HGH, HGB, HO, HFB, HRR, HB, HZ⟩ := hrel
              by_cases hlt : j < k
              · obtain ⟨v, hv⟩ : ∃ v, xs[j]? = some v := ⟨_, List.getElem?_eq_getElem (by rw [← Hk.out]; exact hlt)⟩
                have HMT := hide (map_take_succ strS hv)
                obtain ⟨b', off', e1, hbs', c0⟩ := HRR.out.get1 (k := j) (u := .string v) (by rw [List.getElem?_map, hv]; rfl)
                injection e1 with e1; injection e1 with e2 e3; subst e2; subst e3
                have P1 := hide (fun W => toStreetOf_any v W (QW.out v (List.mem_of_getElem? hv)))
                generalize strS v = y at *
                obtain ⟨y0, y1, y2⟩ := y
                dsimp only at P1
                have a1 := HGB.out.at 1 rfl
                have z1 := HGB.out.1
                clear hv
                go_wp2_with fail
                refine wpAnyX_start (fun w' => ∃ n : Later wr, w' = n.w) [5, 7] (n := 8) (by kernel_rfl) rfl rfl ?_
                refine wpAnyX_take [0, 1, 2] 5 rfl (by kernel_rfl) (by intro c a d v w h; cases d <;> exact h) (by kernel_rfl) (by kernel_rfl) (by kernel_rfl) (by simp; rfl) rfl (later_drew _) ?_
                repeat (go_big_quiet_step (fail))
                refine wpQuiet_nil ?_
                clear a1 c0
                have HX : Hid (Below wr.heap.size wr wr.drew) := hide (Below.refl _ _).drew
                generalize wr.drew = V0 at *
                refine wpAnyX_only 3 (by kernel_rfl) (by simp; rfl) rfl rfl (fun K hK => ?_)
                go_wp2_with fail
                refine (P1.out _).mono ?_
                rintro e V1 ⟨rfl, hb⟩
                replace HX := hide (below_step HX.out hb)
                clear hb P1
                go_wp2_with fail
                refine ⟨later_of HX.out, ?_⟩
                refine wpAnyX_only 4 (by kernel_rfl) (by simp; rfl) rfl rfl (fun K hK => ?_)
                go_wp2_with fail
                have HS := hide (Row.new V1 #[.int .i64 y0, .int .i64 y1, .int .i64 y2] 39)
                replace HX := hide (below_alloc HX.out (.cells #[.int .i64 y0, .int .i64 y1, .int .i64 y2] 39))
                refine ⟨later_of HX.out, ?_⟩
                generalize V1.alloc (.cells #[.int .i64 y0, .int .i64 y1, .int .i64 y2] 39) = V5 at *
                generalize V1.heap.size = sb at *
                have HGA := hide (HGB.out.below HX.out)
                have HFA := hide (HFB.out.below HX.out)
                have HRA := hide (HRR.out.below HX.out)
                have HOA := hide (own_below HO.out HX.out)
                have HBA := hide (below_step HB.out HX.out)
                have HSZ := hide (Nat.le_trans HZ.out HX.out.size)
                clear HGB HFB HRR HO HB HX HZ
                refine wpAnyX_last 5 (by kernel_rfl) (by simp; rfl) rfl rfl (by kernel_rfl) (fun K hK => ?_)
                have hml : maxLen = 9223372036854775807 := rfl
                refine wp_append_lies _ (.tmp 45) (.tmp 48) 24 rfl N3 39 i0 _ 3 24 Tryz.underlying24 Hi.out Hz.out.1 Hz.out.2.1 Hz.out.2.2 rfl (by decide) (.slice A j cp) j (((xs.take j).map strS).flatMap tcells) rfl HOA.out ⟨sb, 0, none⟩ 1 1 (tcells (y0, y1, y2)) rfl rfl (fun q u hu => by rw [Addr.add_lit, Nat.zero_add]; exact HS.out.2.1 q u hu) (fun u hu => by simp [tcells] at hu; rcases hu with rfl | rfl | rfl <;> rfl) (by omega) (by omega) (by omega) HSZ.out V5.heap.size rfl (fun g' cap' w6 hown hgrow _ hlt' => ?_)
                have HO6 : Hid (w6.ownsRow N3 39 3 (.slice (some ⟨g', 0, none⟩) (j + 1) cap') (j + 1) (((xs.take (j + 1)).map strS).flatMap tcells)) := hide (by rw [HMT.out, List.flatMap_append]; simpa using hown)
                have HNB := hide (fun q hq => (HOA.out.lt q hq).1)
                have HG6 := hide (HGA.out.grown hgrow (fun e => by have h1 := HNB.out _ e.symm; have h2 := HN3.out; omega))
                have HF6 := hide (HFA.out.grown hgrow (fun e => by have h1 := HNB.out _ e.symm; have h2 := HN3.out; have h3 := HFT.out; omega))
                have HR6 := hide (HRA.out.grown hgrow (fun b off sp e e2 => by injection e with e; injection e with e3 e4 e5; subst e3; have h1 := HNB.out _ e2.symm; have h2 := HN3.out; have h3 := HLT.out; omega))
                have HB6 := hide (HBA.out.grown hgrow HBA.out.size (fun q hq => by have h1 := HNB.out _ hq; have h2 := HB0.out; omega))
                have HZ6 := hide (Nat.le_trans HSZ.out hgrow.size)
                have hg6 := (HO6.out.lt g' rfl).1
                clear hml HS hown hgrow hlt' HOA HGA HFA HRA HBA HSZ
                refine hK _ _ ?_
                simp only [Act.put, List.setIfInBounds_toArray, List.set_cons_succ, List.set_cons_zero]
                refine wpAnyX_last 6 (by kernel_rfl) (by simp; rfl) rfl rfl (by kernel_rfl) (fun K hK => ?_)
                go_wp2_with fail
                refine wpAnyX_last 7 (by kernel_rfl) (by simp; rfl) rfl rfl (by kernel_rfl) (fun K hK => ?_)
                have a1 := HG6.out.at 1 rfl
                have f1 := HG6.out.free 1
                have z1 := HG6.out.1
                go_wp2_with fail
                refine wpAnyX_done (by kernel_rfl) ?_ _
                go_wp2
                go_roundg (gk - 1)
                case rel =>
                  refine ⟨j + 1, _, cap', by go_num, by omega, hide (by have := HGH.out; omega), hide ((HG6.out.set (by simp) _).cast rfl), hide (own_kept HO6.out (grown_set (g := tb) _ rfl) (fun q hq e => by injection e with e; have h1 := (HO6.out.lt q hq).1; have h2 := HN3.out; omega)), hide (HF6.out.grown (grown_set (g := tb) _ rfl) (fun e => by injection e with e; have h2 := HFT.out; omega)), hide (HR6.out.grown (grown_set (g := tb) _ rfl) (fun b off sp e e2 => by injection e with e; injection e with e3 e4 e5; injection e2 with e2; subst e3; have h2 := HLT.out; omega)), hide (HB6.out.setCell (by have h2 := HFT.out; simp; omega) _), hide (by have := HZ6.out; simpa using this)⟩
                case measure => have := HGH.out; omega
              · obtain rfl : j = k := by omega
                have HTK := hide (show (xs.take j).map strS = xs.map strS by rw [List.take_of_length_le (by have := Hk.out; omega)])
                rw [HTK.out] at HO
                have HLen := hide (show j = (xs.map strS).length by rw [List.length_map]; exact Hk.out)
                have HFL := hide (show o = if (townB nd (xs.map strS) && decide (ttN nd.toNat (xs.map strS) j = s)) then some (nd, xs.map strS) else none by rw [HV.out, ← HLen.out])
                generalize hT : xs.map strS = T at *
                clear hT HTK HV
                have QT := hide (fun W (h : Below wr.heap.size wr W) => toGood_any nd A j cp T W HLen.out (by unfold maxLen; omega) ((own_rd HO.out).below h))
                have d0 := HGB.out.at 0 rfl
                have d1 := HGB.out.at 1 rfl
                have z1 := HGB.out.1
                cases hb : townB nd T with
                | false =>
                  have HN := hide (show o = none by rw [HFL.out, hb]; rfl)
                  rw [hb] at QT
                  clear hb
                  go_wp2_with fail
                  refine (QT.out _ (Below.refl _ _)).mono ?_
                  rintro e w4 ⟨rfl, hq⟩
                  have HB4 := hide (below_step HB.out hq)
                  have HF4 := hide (HFB.out.below hq)
                  clear hq QT d0 d1 z1
                  have e0 := HF4.out.at 0 rfl
                  have e1 := HF4.out.at 1 rfl
                  have f0 := HF4.out.free 0
                  have f1 := HF4.out.free 1
                  go_wp2
                  exact bodyPost_ret (v := .tuple #[.agg #[.int .i64 0, .slice none 0 0], .bool false]) (by simp [results, Tryz.results28, go_sem, *]) rfl (TownOut.no HN.out ((HB4.out.setCell (by simp) _).setCell (by simp) _))
                | true =>
                  obtain ⟨kk, rfl, hK⟩ := townB_ok hb
                  rw [hb] at QT HFL
                  rw [Int.toNat_natCast] at HFL
                  have HKK := hide hK
                  have QX := hide (fun W (h : Below wr.heap.size wr W) => toText_any kk j cp A T W HLen.out HKK.out ((own_rd HO.out).below h))
                  generalize ttN kk T j = tx at *
                  clear hb hK
                  go_wp2_with fail
                  refine (QT.out _ (Below.refl _ _)).mono ?_
                  rintro e w4 ⟨rfl, hq⟩
                  have HX := hide hq
                  have HG4 := hide (HGB.out.below hq)
                  clear hq QT d0 d1 z1
                  have d0 := HG4.out.at 0 rfl
                  have d1 := HG4.out.at 1 rfl
                  have z1 := HG4.out.1
                  go_wp2_with fail
                  refine (QX.out _ HX.out).mono ?_
                  rintro e w5 ⟨rfl, hq⟩
                  have HB5 := hide (below_step HB.out (below_step HX.out hq))
                  have HF5 := hide (HFB.out.below (below_step HX.out hq))
                  have HG5 := hide (HG4.out.below hq)
                  have HO5 := hide (own_below HO.out (below_step HX.out hq))
                  clear hq QX d0 d1 z1 HX HB HFB HGB HO HG4
                  have e0 := HF5.out.at 0 rfl
                  have e1 := HF5.out.at 1 rfl
                  have f0 := HF5.out.free 0
                  have f1 := HF5.out.free 1
                  have d0 := HG5.out.at 0 rfl
                  have d1 := HG5.out.at 1 rfl
                  by_cases hx : tx = s
                  · subst hx
                    have HS := hide (show o = some ((kk : Int), T) by rw [HFL.out]; simp)
                    have HOE := hide (own_le (B' := w.heap.size) HO5.out HB0.out)
                    have HOL := hide (fun q hq => (HO5.out.lt q hq).1)
                    have HKP : Hid (∀ (W : World) (o : Nat) (u : Value), W.ownsRow w.heap.size 39 3 (.slice A j cp) j (T.flatMap tcells) → (W.setCell ⟨w.heap.size, o, none⟩ u).ownsRow w.heap.size 39 3 (.slice A j cp) j (T.flatMap tcells)) := hide (fun W o u h => own_kept h (grown_set (g := w.heap.size) u rfl) (fun q hq e => by injection e with e; have h1 := HOL.out q hq; have h2 := HN3.out; have h3 := HFT.out; omega))
                    clear HOL
                    go_wp2
                    exact bodyPost_ret (v := .tuple #[.agg #[.int .i64 (kk : Int), .slice A j cp], .bool true]) (by simp [results, Tryz.results28, go_sem, *]) rfl (TownOut.yes HS.out (by rw [← HLen.out]; exact HKP.out _ _ _ (HKP.out _ _ _ HOE.out)) ((HB5.out.setCell (by simp) _).setCell (by simp) _))
                  · have HN := hide (show o = none by rw [HFL.out]; simp [hx])
                    have hne := texts_ne hx
                    clear hx
                    go_wp2
                    exact bodyPost_ret (v := .tuple #[.agg #[.int .i64 0, .slice none 0 0], .bool false]) (by simp [results, Tryz.results28, go_sem, *]) rfl (TownOut.no HN.out ((HB5.out.setCell (by simp) _).setCell (by simp) _))
end Go.Proofs.YtbhnaakknfienaaGreatDoor
