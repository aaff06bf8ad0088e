/- Draws of the hose chapter. -/
import Derived.Test.YtmoelgbbgepckaaDoorDrawA
import Derived.Test.YtmoelgbbgepckaaDoorHoseL
import Derived.Test.YtmoelgbbgepckaaDoorRowsX
namespace Go.Proofs.YtmoelgbbgepckaaDoor
open Go.RowKit
set_option linter.unusedVariables false

set_option maxHeartbeats 4000000 in
theorem flowOf_any (d : Drw) (N : Nat) (w : World) (hd : d.ok) (h : d.st N w) (hN : N ≤ 100000000000) :
    Calls Tryd.prog 72 #[.pointer (some ⟨d.g, 0, none⟩)] w (DrwInt d (N + 6) w I64) := by
  have H := hide h
  clear h
  go_enter Tryd.func72, Tryd.ntmps72
  go_wp2_with fail
  refine (pick_any d N 1600 w hd H.out (by omega) (by omega)).mono ?_
  rintro e w1 ⟨⟨x, rfl, hx0, hx1, hx2⟩, hs, hg⟩
  have HS1 := hide hs
  have HG1 := hide hg
  clear hs hg
  go_wp2_with fail
  refine (among_lit d (N + 2) [-1, 3001] _ _ (by simp) hd HS1.out (by omega) (by simp) (by simp)).mono ?_
  rintro e w2 ⟨⟨y, rfl, hy⟩, hs, hg⟩
  have HS2 := hide hs
  have HG2 := hide (grown_trans HG1.out hg)
  have HY := hide hy
  clear hs hg hy
  go_wp2_with fail
  refine (among_lit d (N + 4) [0, 100, 200, 400, 800, 1 + x, 3000, y] _ _ (by simp) hd HS2.out (by omega) (by simp) (by simp)).mono ?_
  rintro e w3 ⟨⟨z, rfl, hz⟩, hs, hg⟩
  have HS3 := hide hs
  have HG3 := hide (grown_trans HG2.out hg)
  have HZ := hide hz
  clear hs hg hz
  go_wp2
  go_ret
  exact ⟨⟨z, rfl, by have hy := HY.out; have hz := HZ.out; simp at hy hz; unfold I64; omega⟩, HS3.out, HG3.out⟩

set_option maxHeartbeats 4000000 in
theorem pressureOf_any (d : Drw) (N : Nat) (w : World) (hd : d.ok) (h : d.st N w) (hN : N ≤ 100000000000) :
    Calls Tryd.prog 67 #[.pointer (some ⟨d.g, 0, none⟩)] w (DrwInt d (N + 6) w I64) := by
  have H := hide h
  clear h
  go_enter Tryd.func67, Tryd.ntmps67
  go_wp2_with fail
  refine (pick_any d N 1200 w hd H.out (by omega) (by omega)).mono ?_
  rintro e w1 ⟨⟨x, rfl, hx0, hx1, hx2⟩, hs, hg⟩
  have HS1 := hide hs
  have HG1 := hide hg
  clear hs hg
  go_wp2_with fail
  refine (among_lit d (N + 2) [-1, 2001] _ _ (by simp) hd HS1.out (by omega) (by simp) (by simp)).mono ?_
  rintro e w2 ⟨⟨y, rfl, hy⟩, hs, hg⟩
  have HS2 := hide hs
  have HG2 := hide (grown_trans HG1.out hg)
  have HY := hide hy
  clear hs hg hy
  go_wp2_with fail
  refine (among_lit d (N + 4) [0, 1, 150, 500, 800, x, 2000, y] _ _ (by simp) hd HS2.out (by omega) (by simp) (by simp)).mono ?_
  rintro e w3 ⟨⟨z, rfl, hz⟩, hs, hg⟩
  have HS3 := hide hs
  have HG3 := hide (grown_trans HG2.out hg)
  have HZ := hide hz
  clear hs hg hz
  go_wp2
  go_ret
  exact ⟨⟨z, rfl, by have hy := HY.out; have hz := HZ.out; simp at hy hz; unfold I64; omega⟩, HS3.out, HG3.out⟩

def DrwHose (d : Drw) (M : Nat) (w : World) (e : Ending) (w' : World) : Prop :=
  (∃ k l : Int, e = .returned (.agg #[.int .i64 k, .int .i64 l]) ∧ I64 k ∧ I64 l) ∧ d.st M w' ∧ w.grownBy w' (some d.g)

set_option maxHeartbeats 8000000 in
theorem hose_any (d : Drw) (N : Nat) (w : World) (hd : d.ok) (h : d.st N w) (hN : N ≤ 100000000000) :
    Calls Tryd.prog 74 #[.pointer (some ⟨d.g, 0, none⟩)] w (DrwHose d (N + 10) w) := by
  have H := hide h
  clear h
  go_enter Tryd.func74, Tryd.ntmps74
  go_wp2_with fail
  have HR := hide (Row.new w #[.int .i64 0, .int .i64 0] 40)
  refine (among_lit d N [1, 1, 2, 0, 3] _ _ (by simp) hd (H.out.alloc _) (by omega) (by simp) (by simp)).mono ?_
  rintro e w1 ⟨⟨k, rfl, hk⟩, hs, hg⟩
  have HK := hide hk
  have HS1 := hide hs
  have HG1 := hide (grown_trans (grown_of_below ((Below.refl _ _).alloc (Nat.le_refl _) _) _) hg)
  have HR1 := hide (HR.out.grown hg (fun e => by injection e with e; have := H.out.lt; omega))
  clear hk hs hg
  go_wp2_with fail
  refine (pick_any d (N + 2) 3000 w1 hd HS1.out (by omega) (by omega)).mono ?_
  rintro e w2 ⟨⟨x, rfl, hx0, hx1, hx2⟩, hs, hg⟩
  have HS2 := hide hs
  have HG2 := hide (grown_trans HG1.out hg)
  have HR2 := hide (HR1.out.grown hg (fun e => by injection e with e; have := H.out.lt; omega))
  clear hs hg
  go_wp2_with fail
  refine (among_lit d (N + 4) [200, 200, 300, 50, 1000, 1 + x] _ _ (by simp) hd HS2.out (by omega) (by simp) (by simp)).mono ?_
  rintro e w3 ⟨⟨l, rfl, hl⟩, hs, hg⟩
  have HL := hide (show I64 l by simp at hl; unfold I64; omega)
  have HS3 := hide hs
  have HG3 := hide (grown_trans HG2.out hg)
  have HR3 := hide (HR2.out.grown hg (fun e => by injection e with e; have := H.out.lt; omega))
  clear hl hs hg
  go_wp2_with fail
  have HF3 := hide (Row.new w3 #[.int .i64 k, .int .i64 l] 40)
  have HR3' := hide (HR3.out.alloc (.cells #[.int .i64 k, .int .i64 l] 40))
  have HNE := hide (show w.heap.size ≠ w3.heap.size by have := HR3.out.1; omega)
  have HGW := hide (show w.heap.size ≤ w3.heap.size from HG3.out.size)
  have HKI := hide (show I64 k by have hk := HK.out; simp at hk; unfold I64; omega)
  have HD := hide (show d.g < w.heap.size ∧ d.W0.heap.size ≤ w.heap.size from ⟨H.out.lt, H.out.base⟩)
  refine (pick_any d (N + 6) 40 _ hd (HS3.out.alloc _) (by omega) (by omega)).mono ?_
  rintro e w4 ⟨⟨p, rfl, hp0, hp1, hp2⟩, hs, hg⟩
  have HS4 := hide hs
  have HG4 := hide (grown_trans (grown_new HG3.out _) hg)
  have HR4 := hide (HR3'.out.grown hg (fun e => by injection e with e; have := HD.out; omega))
  have HF4 := hide (HF3.out.grown hg (fun e => by injection e with e; have := HD.out; have := HGW.out; omega))
  clear hs hg HF3 HR3' HR3 HR2 HR1 HR HK
  generalize w3.heap.size = B3 at *
  generalize hBw : w.heap.size = B0 at *
  by_cases hp : p = 0
  · have hp' : (p == 0) = true := by simpa using hp
    clear hp hp0 hp1 hp2
    go_wp2_with fail
    refine (among_lit d (N + 8) [-1, 4, -9223372036854775808] _ _ (by simp) hd HS4.out (by omega) (by simp) (by simp)).mono ?_
    rintro e w5 ⟨⟨y, rfl, hy⟩, hs, hg⟩
    have HY := hide (show I64 y by simp at hy; unfold I64; omega)
    have HS5 := hide hs
    have HG5 := hide (grown_trans HG4.out hg)
    have HR5 := hide (HR4.out.grown hg (fun e => by injection e with e; have := HD.out; omega))
    have HF5 := hide (HF4.out.grown hg (fun e => by injection e with e; have := HD.out; have := HGW.out; omega))
    clear hs hg hy HR4 HF4
    have a0 := HF5.out.2.1 0 _ rfl
    have a1 := HF5.out.2.1 1 _ rfl
    have g0 := HF5.out.free 0
    have g1 := HF5.out.free 1
    have b0 := HR5.out.2.1 0 _ rfl
    have b1 := HR5.out.2.1 1 _ rfl
    have q0 := HR5.out.free 0
    have q1 := HR5.out.free 1
    have n1 := HNE.out
    have n2 : B3 ≠ B0 := Ne.symm n1
    go_wp2
    exact bodyPost_ret (v := .agg #[.int .i64 y, .int .i64 l]) (by simp [results, Tryd.results74, go_sem, *]) rfl ⟨⟨_, _, rfl, HY.out, HL.out⟩, ((HS5.out.put (by have h1 := HD.out; have h2 := HGW.out; dsimp only; omega) (by have h1 := HD.out; have h2 := HGW.out; dsimp only; omega) _).put (by have h1 := HD.out; have h2 := HGW.out; dsimp only; omega) (by have h1 := HD.out; have h2 := HGW.out; dsimp only; omega) _).put (by have h1 := HD.out; have h2 := HGW.out; dsimp only; omega) (by have h1 := HD.out; have h2 := HGW.out; dsimp only; omega) _, grown_put (grown_put (grown_put HG5.out (by have h1 := HD.out; have h2 := HGW.out; dsimp only; omega) _) (by have h1 := HD.out; have h2 := HGW.out; dsimp only; omega) _) (by have h1 := HD.out; have h2 := HGW.out; dsimp only; omega) _⟩
  · have hp' : (p == 0) = false := by simpa using hp
    by_cases hq : p = 1
    · have hq' : (p == 1) = true := by simpa using hq
      clear hp hp0 hp1 hp2 hq
      go_wp2_with fail
      refine (among_lit d (N + 8) [0, 5000, 5001] _ _ (by simp) hd HS4.out (by omega) (by simp) (by simp)).mono ?_
      rintro e w5 ⟨⟨y, rfl, hy⟩, hs, hg⟩
      have HY := hide (show I64 y by simp at hy; unfold I64; omega)
      have HS5 := hide hs
      have HG5 := hide (grown_trans HG4.out hg)
      have HR5 := hide (HR4.out.grown hg (fun e => by injection e with e; have := HD.out; omega))
      have HF5 := hide (HF4.out.grown hg (fun e => by injection e with e; have := HD.out; have := HGW.out; omega))
      clear hs hg hy HR4 HF4
      have a0 := HF5.out.2.1 0 _ rfl
      have a1 := HF5.out.2.1 1 _ rfl
      have g0 := HF5.out.free 0
      have g1 := HF5.out.free 1
      have b0 := HR5.out.2.1 0 _ rfl
      have b1 := HR5.out.2.1 1 _ rfl
      have q0 := HR5.out.free 0
      have q1 := HR5.out.free 1
      have n1 := HNE.out
      have n2 : B3 ≠ B0 := Ne.symm n1
      go_wp2
      exact bodyPost_ret (v := .agg #[.int .i64 k, .int .i64 y]) (by simp [results, Tryd.results74, go_sem, *]) rfl ⟨⟨_, _, rfl, HKI.out, HY.out⟩, ((HS5.out.put (by have h1 := HD.out; have h2 := HGW.out; dsimp only; omega) (by have h1 := HD.out; have h2 := HGW.out; dsimp only; omega) _).put (by have h1 := HD.out; have h2 := HGW.out; dsimp only; omega) (by have h1 := HD.out; have h2 := HGW.out; dsimp only; omega) _).put (by have h1 := HD.out; have h2 := HGW.out; dsimp only; omega) (by have h1 := HD.out; have h2 := HGW.out; dsimp only; omega) _, grown_put (grown_put (grown_put HG5.out (by have h1 := HD.out; have h2 := HGW.out; dsimp only; omega) _) (by have h1 := HD.out; have h2 := HGW.out; dsimp only; omega) _) (by have h1 := HD.out; have h2 := HGW.out; dsimp only; omega) _⟩
    · have hq' : (p == 1) = false := by simpa using hq
      clear hp hp0 hp1 hp2 hq
      have HS5 := hide (HS4.out.more (show N + 8 ≤ N + 10 by omega))
      have HG5 := HG4
      have HR5 := HR4
      have HF5 := HF4
      clear HR4 HF4
      have a0 := HF5.out.2.1 0 _ rfl
      have a1 := HF5.out.2.1 1 _ rfl
      have g0 := HF5.out.free 0
      have g1 := HF5.out.free 1
      have b0 := HR5.out.2.1 0 _ rfl
      have b1 := HR5.out.2.1 1 _ rfl
      have q0 := HR5.out.free 0
      have q1 := HR5.out.free 1
      have n1 := HNE.out
      have n2 : B3 ≠ B0 := Ne.symm n1
      go_wp2
      exact bodyPost_ret (v := .agg #[.int .i64 k, .int .i64 l]) (by simp [results, Tryd.results74, go_sem, *]) rfl ⟨⟨_, _, rfl, HKI.out, HL.out⟩, (HS5.out.put (by have h1 := HD.out; have h2 := HGW.out; dsimp only; omega) (by have h1 := HD.out; have h2 := HGW.out; dsimp only; omega) _).put (by have h1 := HD.out; have h2 := HGW.out; dsimp only; omega) (by have h1 := HD.out; have h2 := HGW.out; dsimp only; omega) _, grown_put (grown_put HG5.out (by have h1 := HD.out; have h2 := HGW.out; dsimp only; omega) _) (by have h1 := HD.out; have h2 := HGW.out; dsimp only; omega) _⟩

/-- What a draw of a line leaves: a row of the call's own. -/
def DrwLine (d : Drw) (M : Nat) (w : World) (e : Ending) (w' : World) : Prop :=
  (∃ (v : Value) (hs : List (Int × Int)), e = .returned v ∧ hs.length ≤ 13 ∧ w'.ownsRow w.heap.size 40 2 v hs.length (hs.flatMap hcells)) ∧ d.st M w' ∧ w.grownBy w' (some d.g)
theorem infoHoseD : (Tryd.prog.info? 40).map (fun i => (i.zero, i.size, i.bytes)) = some (some (.agg #[.int .i64 0, .int .i64 0]), 2, 16) := by kernel_rfl
theorem hcells_one (l : List (Int × Int)) : ∀ u ∈ l.flatMap hcells, u.oneCell' = true := by
  intro u hu
  obtain ⟨t, _, ht⟩ := List.mem_flatMap.1 hu
  simp [hcells] at ht
  rcases ht with rfl | rfl <;> rfl

def lenV : Value → Nat
  | .slice _ n _ => n
  | _ => 0
theorem grown_own {w w1 w2 : World} {row r2 : Option Nat} (h : w.grownBy w1 row) (k : w1.grownBy w2 r2) (hr : ∀ j, r2 = some j → w.heap.size ≤ j) : w.grownBy w2 row :=
  ⟨k.os.trans h.os, k.tape.trans h.tape, k.output.trans h.output, Nat.le_trans h.size k.size, fun i hi hne => (k.block i (Nat.lt_of_lt_of_le hi h.size) (fun e => by have := hr i e.symm; omega)).trans (h.block i hi hne)⟩

set_option maxRecDepth 100000 in
set_option maxHeartbeats 8000000 in
theorem hoses_any (d : Drw) (N : Nat) (w : World) (hd : d.ok) (h : d.st N w) (hN : N ≤ 10000000000) :
    Calls Tryd.prog 66 #[.pointer (some ⟨d.g, 0, none⟩)] w (DrwLine d (N + 200) w) := by
  have H := hide h
  have HD := hide (show d.g < w.heap.size ∧ d.W0.heap.size ≤ w.heap.size from ⟨h.lt, h.base⟩)
  obtain ⟨i0, hi0, hz0, hz1, hz2⟩ := info_parts infoHoseD
  have Hi := hide hi0
  have Hz := hide (And.intro hz0 (And.intro hz1 hz2))
  clear h hi0 hz0 hz1 hz2
  go_enter Tryd.func66, Tryd.ntmps66
  go_wp2_with fail
  refine (pick_any d N 4 w hd H.out (by omega) (by omega)).mono ?_
  rintro e w1 ⟨⟨x, rfl, hx0, hx1, hx2⟩, hs, hg⟩
  have HS1 := hide hs
  have HG1 := hide hg
  clear hs hg
  go_wp2_with fail
  refine (one_any d (N + 2) 12 w1 hd HS1.out (by omega) (by omega)).mono ?_
  rintro e w2 ⟨⟨b, rfl⟩, hs, hg⟩
  have HS2 := hide hs
  have HG2 := hide (grown_trans HG1.out hg)
  clear hs hg
  cases b with
  | true =>
    go_wp2_with fail
    refine (among_lit d (N + 4) [0, 12, 13] _ _ (by simp) hd HS2.out (by omega) (by simp) (by simp)).mono ?_
    rintro e w3 ⟨⟨m, rfl, hm'⟩, hs, hg⟩
    have HS3 : Hid (d.st (N + 6 + 10 * 0) w3) := hide (hs.more (by omega))
    have HG3 := hide (grown_trans HG2.out hg)
    have hm : m ≤ 13 := by simp at hm'; omega
    clear hs hg hm'
    have HM := hide hm
    clear hm
    go_wp2_with fail
    go_loopw [3] (fun t wr => ∃ (k : Nat) (A : Option Addr) (cap : Nat) (hs : List (Int × Int)), t = .slice A k cap ∧ k ≤ 13 ∧ Hid (k = hs.length) ∧ Hid (wr.ownsRow w.heap.size 40 2 (.slice A k cap) k (hs.flatMap hcells)) ∧ Hid (d.st (N + 6 + 10 * k) wr) ∧ Hid (w.grownBy wr (some d.g))) (fun t _ => 13 - lenV t)
    case atStart => exact ⟨0, none, 0, [], rfl, by omega, hide rfl, hide (World.ownsRow_nil _ _ _ _), HS3, HG3⟩
    case round =>
      obtain ⟨k, A, cap, hs, rfl, hk, HL, HO, HS, HG⟩ := hrel
      by_cases hlt : (k : Int) < m
      · have hk12 : k < 13 := by have := HM.out; omega
        go_wp2_with fail
        refine (hose_any d (N + 6 + 10 * k) wr hd HS.out (by omega)).mono ?_
        rintro e w5 ⟨⟨p, q, rfl, hp, hq⟩, hs5, hg5⟩
        have HS5 := hide (hs5.alloc (.cells #[.int .i64 p, .int .i64 q] 40))
        have HG5 := hide (grown_new (grown_trans HG.out hg5) (.cells #[.int .i64 p, .int .i64 q] 40))
        have HO5 := hide (own_far HO.out hg5 HD.out.1)
        have HSZ := hide (show w.heap.size ≤ (w5.alloc (.cells #[.int .i64 p, .int .i64 q] 40)).heap.size from HG5.out.size)
        have HOA := hide (World.ownsRow.alloc HO5.out (.cells #[.int .i64 p, .int .i64 q] 40))
        have HBA := hide (Row.new w5 #[.int .i64 p, .int .i64 q] 40)
        clear hs5 hg5 HO5 HO HS HG
        go_wp2_with (at_builtin; refine wpList_append_any rfl (.tmp 17) (.tmp 20) 26 rfl w.heap.size 40 i0 _ 2 16 Tryd.underlying26 Hi.out Hz.out.1 Hz.out.2.1 Hz.out.2.2 rfl (by decide) (.slice A k cap) k (hs.flatMap hcells) rfl HOA.out (some ⟨w5.heap.size, 0, none⟩) 1 1 (hcells (p, q)) rfl rfl (fun e => by cases e) (fun ad e j u hu => by cases e; rw [Addr.add_lit, Nat.zero_add]; exact HBA.out.2.1 j u hu) (fun u hu => hcells_one [(p, q)] u (by simpa using hu)) (by unfold maxLen; omega) (by omega) HSZ.out ?_)
        intro v6 w6 hown hgrow
        have HO6 : Hid (w6.ownsRow w.heap.size 40 2 v6 (k + 1) ((hs ++ [(p, q)]).flatMap hcells)) := hide (by rw [List.flatMap_append]; simpa using hown)
        have HS6 := hide (HS5.out.grown hgrow (fun j hj => by have h1 := (HOA.out.lt _ hj).1; have h2 := HD.out; omega))
        have HG6 : Hid (w.grownBy w6 (some d.g)) := hide (grown_own HG5.out hgrow (fun j hj => (HOA.out.lt _ hj).1))
        clear hown hgrow HOA HBA HSZ HS5 HG5
        obtain ⟨A6, c6, rfl, -⟩ := own_open HO6.out
        go_wp2
        go_roundw
        case rel => exact ⟨k + 1, A6, c6, hs ++ [(p, q)], rfl, by omega, hide (by have := HL.out; simp; omega), HO6, hide (HS6.out.more (by omega)), HG6⟩
        case measure => simp [lenV]; omega
      · go_wp2
        go_ret
        refine ⟨⟨_, hs, rfl, by have := HL.out; omega, ?_⟩, HS.out.more (by omega), HG.out⟩
        rw [← HL.out]
        exact HO.out
  | false =>
    have HS3 : Hid (d.st (N + 6 + 10 * 0) w2) := hide (HS2.out.more (by omega))
    have HG3 := HG2
    obtain ⟨m, hmx⟩ : ∃ m, m = 1 + x := ⟨_, rfl⟩
    have hm : m ≤ 13 := by omega
    rw [← hmx]
    clear hmx hx0 hx1 hx2
    have HM := hide hm
    clear hm
    go_wp2_with fail
    go_loopw [3] (fun t wr => ∃ (k : Nat) (A : Option Addr) (cap : Nat) (hs : List (Int × Int)), t = .slice A k cap ∧ k ≤ 13 ∧ Hid (k = hs.length) ∧ Hid (wr.ownsRow w.heap.size 40 2 (.slice A k cap) k (hs.flatMap hcells)) ∧ Hid (d.st (N + 6 + 10 * k) wr) ∧ Hid (w.grownBy wr (some d.g))) (fun t _ => 13 - lenV t)
    case atStart => exact ⟨0, none, 0, [], rfl, by omega, hide rfl, hide (World.ownsRow_nil _ _ _ _), HS3, HG3⟩
    case round =>
      obtain ⟨k, A, cap, hs, rfl, hk, HL, HO, HS, HG⟩ := hrel
      by_cases hlt : (k : Int) < m
      · have hk12 : k < 13 := by have := HM.out; omega
        go_wp2_with fail
        refine (hose_any d (N + 6 + 10 * k) wr hd HS.out (by omega)).mono ?_
        rintro e w5 ⟨⟨p, q, rfl, hp, hq⟩, hs5, hg5⟩
        have HS5 := hide (hs5.alloc (.cells #[.int .i64 p, .int .i64 q] 40))
        have HG5 := hide (grown_new (grown_trans HG.out hg5) (.cells #[.int .i64 p, .int .i64 q] 40))
        have HO5 := hide (own_far HO.out hg5 HD.out.1)
        have HSZ := hide (show w.heap.size ≤ (w5.alloc (.cells #[.int .i64 p, .int .i64 q] 40)).heap.size from HG5.out.size)
        have HOA := hide (World.ownsRow.alloc HO5.out (.cells #[.int .i64 p, .int .i64 q] 40))
        have HBA := hide (Row.new w5 #[.int .i64 p, .int .i64 q] 40)
        clear hs5 hg5 HO5 HO HS HG
        go_wp2_with (at_builtin; refine wpList_append_any rfl (.tmp 17) (.tmp 20) 26 rfl w.heap.size 40 i0 _ 2 16 Tryd.underlying26 Hi.out Hz.out.1 Hz.out.2.1 Hz.out.2.2 rfl (by decide) (.slice A k cap) k (hs.flatMap hcells) rfl HOA.out (some ⟨w5.heap.size, 0, none⟩) 1 1 (hcells (p, q)) rfl rfl (fun e => by cases e) (fun ad e j u hu => by cases e; rw [Addr.add_lit, Nat.zero_add]; exact HBA.out.2.1 j u hu) (fun u hu => hcells_one [(p, q)] u (by simpa using hu)) (by unfold maxLen; omega) (by omega) HSZ.out ?_)
        intro v6 w6 hown hgrow
        have HO6 : Hid (w6.ownsRow w.heap.size 40 2 v6 (k + 1) ((hs ++ [(p, q)]).flatMap hcells)) := hide (by rw [List.flatMap_append]; simpa using hown)
        have HS6 := hide (HS5.out.grown hgrow (fun j hj => by have h1 := (HOA.out.lt _ hj).1; have h2 := HD.out; omega))
        have HG6 : Hid (w.grownBy w6 (some d.g)) := hide (grown_own HG5.out hgrow (fun j hj => (HOA.out.lt _ hj).1))
        clear hown hgrow HOA HBA HSZ HS5 HG5
        obtain ⟨A6, c6, rfl, -⟩ := own_open HO6.out
        go_wp2
        go_roundw
        case rel => exact ⟨k + 1, A6, c6, hs ++ [(p, q)], rfl, by omega, hide (by have := HL.out; simp; omega), HO6, hide (HS6.out.more (by omega)), HG6⟩
        case measure => simp [lenV]; omega
      · go_wp2
        go_ret
        refine ⟨⟨_, hs, rfl, by have := HL.out; omega, ?_⟩, HS.out.more (by omega), HG.out⟩
        rw [← HL.out]
        exact HO.out
end Go.Proofs.YtmoelgbbgepckaaDoor
