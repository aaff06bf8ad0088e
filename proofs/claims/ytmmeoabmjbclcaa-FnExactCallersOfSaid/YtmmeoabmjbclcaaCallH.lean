/- How many callers a group of calls has. -/
import Derived.Test.YtmmeoabmjbclcaaCallG
import Derived.Maps.OwnSet
import Derived.Maps.OwnOps
import Derived.WalkArith
namespace Go.Proofs.Ytmmeoabmjbclcaa
open Go.RowKit Go.Maps Go.WideShapes
set_option linter.unusedVariables false

def callF (l : List CallT) (i : Int) : Int := match l[i.toNat]? with | some c => c.2.2.2.2 | none => 0
def callersV (l : List CallT) (idx : List Int) : Int := if callsB l && groupB l.length idx then (putK (callF l) idx idx.length).length else 0
theorem groupB_elem {n : Nat} {idx : List Int} (h : groupB n idx = true) {k : Nat} {x : Int} (hx : idx[k]? = some x) : 0 ≤ x ∧ x < n := by
  simp only [groupB, Bool.and_eq_true, riseB] at h
  have := inB_iff.1 (chainB_elem h.1 hx)
  omega

set_option maxHeartbeats 4000000 in
theorem specCallersOf_any (A' : Option Addr) (n c' : Nat) (l : List (Int × Int × Int × Int × Int)) (A : Option Addr) (m c : Nat) (idx : List Int) (w : World) (hl : n = l.length) (hn : m = idx.length) (hm : m ≤ 1048576) (hn2 : n ≤ 1048576) (hr' : Rd w A' (l.flatMap ccells)) (hr : Rd w A (idx.map (Value.int .i64))) :
    Calls Try.prog 6 #[.slice A' n c', .slice A m c] w fun e w' => e = .returned (.tuple #[.int .i64 (callersV l idx), .bool (callsB l && groupB l.length idx)]) ∧ Below w.heap.size w w' := by
  have Hl := hide hl
  have Hn := hide hn
  have Hr := hide hr
  have Hr' := hide hr'
  have q := clGroup_any A' n c' l A m c idx w hl hn hm hn2 hr' hr
  rw [hl] at q
  rw [← hl] at q
  clear hl hn hr hr'
  cases hv : callsB l && groupB n idx with
  | false =>
    have HV := hide (show (callsB l && groupB l.length idx) = false by rw [← show n = l.length from Hl.out]; exact hv)
    rw [hv] at q
    clear hv
    go_enter Try.func6, Try.ntmps6
    go_wp2_with (go_at_call 17; ((with_reducible refine (q).mono ?_); rintro e w1 ⟨rfl, hb1⟩); obtain ⟨hc1, hf1⟩ := bcell hb1)
    go_ret2
    exact ⟨ret_tup2 (by rw [callersV, HV.out]; rfl) HV.out.symm, (by repeat (first | exact Below.refl _ _ | refine below_step ?_ (by assumption) | refine below_step ?_ (Later.below _) | refine below_alloc ?_ _ | refine Below.drew ?_ | refine Below.setCell ?_ (by first | (simp; done) | (simp; omega)) _))⟩
  | true =>
    have HV := hide (show (callsB l && groupB l.length idx) = true by rw [← show n = l.length from Hl.out]; exact hv)
    rw [hv] at q
    simp only [Bool.and_eq_true] at hv
    have HG := hide hv.2
    have HC := hide hv.1
    clear hv
    go_enter Try.func6, Try.ntmps6
    go_wp2_with (go_at_call 17; ((with_reducible refine (q).mono ?_); rintro e w1 ⟨rfl, hb1⟩); obtain ⟨hc1, hf1⟩ := bcell hb1)
    have Hb1 := hide hb1
    clear q hc1 hf1 hb1
    go_loopw [6, 15] (fun s i wr => ∃ k : Nat, k ≤ m ∧ i = .int .i64 k ∧ Hid (wr.ownsRow w.heap.size 3 1 s (putK (callF l) idx k).length ((putK (callF l) idx k).map (Value.int .i64))) ∧ Below w.heap.size w wr) (fun _ i _ => m - (intOf i).toNat)
    case atStart => exact ⟨0, by omega, rfl, hide (by simpa [putK] using World.ownsRow_nil _ _ _ _), Hb1.out⟩
    case round =>
      obtain ⟨k, hk, rfl, HO1, hb⟩ := hrel
      by_cases hlt : k < m
      · obtain ⟨x, hx⟩ : ∃ x, idx[k]? = some x := ⟨_, List.getElem?_eq_getElem (by rw [← Hn.out]; exact hlt)⟩
        obtain ⟨hx0, hx1⟩ := groupB_elem HG.out hx
        obtain ⟨i, rfl⟩ : ∃ i : Nat, x = (i : Int) := ⟨x.toNat, by omega⟩
        obtain ⟨b, off, rfl, hbs, c0⟩ := (Hr.out.below hb).get1 (show (idx.map (Value.int .i64))[k]? = some (.int .i64 (i : Int)) by simp [hx])
        have HK := hide (putK_succ (f := callF l) hx)
        clear hx
        obtain ⟨⟨y0, y1, y2, y3, y4⟩, hy⟩ : ∃ h, l[i]? = some h := ⟨_, List.getElem?_eq_getElem (by rw [← Hl.out]; omega)⟩
        obtain ⟨b', off', rfl, hbs', d0, d1, d2, d3, d4⟩ := (Hr'.out.below hb).get5 (fun _ => rfl) hy rfl
        have HF := hide (show callF l (i : Int) = y4 by rw [callF, Int.toNat_natCast, hy])
        clear hy
        dsimp only at d0 d1 d2 d3 d4
        have hlen := putK_length (callF l) idx k
        have Q := hide (fun v hO => l1Put_any w.heap.size v (putK (callF l) idx k).length (putK (callF l) idx k) y4 wr hO rfl (by omega) hb.size)
        clear hlen
        go_wp2_with fail
        refine (Q.out _ HO1.out).mono ?_
        rintro e w1 ⟨⟨v', rfl, ho⟩, hb1⟩
        have HO := hide ho
        clear ho
        go_wp2
        go_roundw
        case rel => exact ⟨k + 1, by omega, by go_num, hide (by rw [HK.out, HF.out]; exact HO.out), below_step hb hb1⟩
        case measure => simp [intOf]; omega
      · obtain ⟨A1, k1, rfl, -⟩ := own_open HO1.out
        go_wp2
        go_ret2
        exact ⟨ret_tup2 (by rw [callersV, HV.out, putK_all (k := k) (by have := Hn.out; omega)]; rfl) HV.out.symm, hb⟩

theorem keyedInt : Keyed Try.prog 3 := int_keyed Try.underlying3
def setR (f : Int → Int) (idx : List Int) (k : Nat) (D : DataW Unit) : Prop := Tidy D ∧ Maps.size D = (putK f idx k).length ∧ ∀ z : Int, Maps.has D (.int .i64 z) = true ↔ z ∈ putK f idx k
theorem setR_step {f : Int → Int} {idx : List Int} {k : Nat} {D : DataW Unit} {x : Int} (h : setR f idx k D) (hx : idx[k]? = some x) (hk : WideAt.IsKeyLit (.int .i64 (f x))) (d : DataW Unit) : setR f idx (k + 1) (D.put (.int .i64 (f x)) d) := by
  obtain ⟨h1, h2, h3⟩ := h
  refine ⟨h1.put hk d, ?_, fun z => ?_⟩
  · rw [size_put h1, putK_succ hx, putF_count (putK_sorted _ _ _), h2]
    by_cases hm : f x ∈ putK f idx k
    · rw [if_pos hm, if_pos ((h3 _).2 hm)]
    · rw [if_neg hm, if_neg (fun hh => hm ((h3 _).1 hh))]
  · rw [putK_succ hx, putF_mem]
    by_cases hz : z = f x
    · subst hz
      simp [has_put_same h1.isMap hk]
    · rw [has_put_other (by intro e; injection e with _ e; exact hz e), h3]
      simp [hz]

set_option maxHeartbeats 4000000 in
theorem implCallersOf_any (A' : Option Addr) (n c' : Nat) (l : List (Int × Int × Int × Int × Int)) (A : Option Addr) (m c : Nat) (idx : List Int) (w : World) (hl : n = l.length) (hn : m = idx.length) (hm : m ≤ 1048576) (hn2 : n ≤ 1048576) (hr' : Rd w A' (l.flatMap ccells)) (hr : Rd w A (idx.map (Value.int .i64))) :
    Calls Try.prog 9 #[.slice A' n c', .slice A m c] w fun e w' => e = .returned (.tuple #[.int .i64 (callersV l idx), .bool (callsB l && groupB l.length idx)]) ∧ Below w.heap.size w w' := by
  have Hl := hide hl
  have Hn := hide hn
  have Hr := hide hr
  have Hr' := hide hr'
  have q := areCalls_any A' n c' l w hl hn2 hr'
  have Q2 := hide (fun W hr => isGroup_any A' n c' A m c idx W hn hm hn2 hr)
  clear hl hn hr hr'
  cases hv : callsB l with
  | false =>
    have HV := hide (show (callsB l && groupB l.length idx) = false by rw [hv]; rfl)
    have HL := hide (show (false && groupB l.length idx) = false from rfl)
    rw [hv] at q
    clear hv
    go_enter Try.func9, Try.ntmps9
    go_wp2_with (first | (go_at_call 20; ((with_reducible refine (q).mono ?_); rintro e w1 ⟨rfl, hb1⟩); obtain ⟨hc1, hf1⟩ := bcell hb1) | (go_at_call 21; ((with_reducible refine (Q2.out _ (Hr.out.below (by assumption))).mono ?_); rintro e w2 ⟨rfl, hb2⟩); obtain ⟨hc2, hf2⟩ := bcell hb2))
    all_goals
      go_ret2
      exact ⟨ret_tup2 (by rw [callersV, HV.out]; rfl) HL.out.symm, (by repeat (first | exact Below.refl _ _ | refine below_step ?_ (by assumption) | refine below_step ?_ (Later.below _) | refine below_alloc ?_ _ | refine Below.drew ?_ | refine Below.setCell ?_ (by first | (simp; done) | (simp; omega)) _))⟩
  | true =>
    have HC := hide hv
    rw [hv] at q
    clear hv
    cases hg : groupB n idx with
    | false =>
      have HV := hide (show (callsB l && groupB l.length idx) = false by rw [← show n = l.length from Hl.out, hg, Bool.and_false])
      have HL := hide (show (true && groupB l.length idx) = false by rw [← show n = l.length from Hl.out, hg]; rfl)
      have Q3 := hide (fun W hr => by have := Q2.out W hr; rw [hg] at this; exact this)
      clear hg
      go_enter Try.func9, Try.ntmps9
      go_wp2_with (first | (go_at_call 20; ((with_reducible refine (q).mono ?_); rintro e w1 ⟨rfl, hb1⟩); obtain ⟨hc1, hf1⟩ := bcell hb1) | (go_at_call 21; ((with_reducible refine (Q3.out _ (Hr.out.below (by assumption))).mono ?_); rintro e w2 ⟨rfl, hb2⟩); obtain ⟨hc2, hf2⟩ := bcell hb2))
      all_goals
        go_ret2
        exact ⟨ret_tup2 (by rw [callersV, HV.out]; rfl) HL.out.symm, (by repeat (first | exact Below.refl _ _ | refine below_step ?_ (by assumption) | refine below_step ?_ (Later.below _) | refine below_alloc ?_ _ | refine Below.drew ?_ | refine Below.setCell ?_ (by first | (simp; done) | (simp; omega)) _))⟩
    | true =>
      have HV := hide (show (callsB l && groupB l.length idx) = true by rw [← show n = l.length from Hl.out, hg, HC.out]; rfl)
      have HL := hide (show (true && groupB l.length idx) = true by rw [← show n = l.length from Hl.out, hg]; rfl)
      have HG := hide hg
      have Q3 := hide (fun W hr => by have := Q2.out W hr; rw [hg] at this; exact this)
      clear hg
      have hmm := @run_makeMap Try.prog
      go_enter Try.func9, Try.ntmps9
      go_wp2_with (first | (go_at_call 20; ((with_reducible refine (q).mono ?_); rintro e w1 ⟨rfl, hb1⟩); (first | (obtain ⟨n1, rfl⟩ := later_up n1 hb1) | (obtain ⟨n1, rfl⟩ := later_of hb1)); clear hb1) | (go_at_call 21; ((with_reducible refine (Q3.out _ (Hr.out.below (Later.below _))).mono ?_); rintro e w1 ⟨rfl, hb1⟩); (first | (obtain ⟨n1, rfl⟩ := later_up n1 hb1) | (obtain ⟨n1, rfl⟩ := later_of hb1)); clear hb1))
      have hsz : (n1.w.alloc (.map #[] 0)).heap.size = n1.w.heap.size + 1 := by simp
      have HB1 := hide n1.below
      have HS := hide n1.below.size
      clear q hmm hsz
      go_loopw [21] (fun i wr => ∃ k : Nat, k ≤ m ∧ i = .int .i64 k ∧ Hid (∃ D : DataW Unit, wr.ownsMap Try.prog 3 (plainElem Try.prog 4) n1.w.heap.size k D ∧ setR (callF l) idx k D) ∧ Below w.heap.size w wr) (fun i _ => m - (intOf i).toNat)
      case atStart => exact ⟨0, by omega, rfl, hide ⟨.map [], World.ownsMap_made _ _ _ _, tidy_empty, rfl, fun z => by simp [putK, Maps.has]⟩, below_alloc HB1.out _⟩
      case round =>
        obtain ⟨k, hk, rfl, HX, hb⟩ := hrel
        obtain ⟨D, hown, hset⟩ := HX.out
        have HO := hide hown
        have HT := hide hset
        clear hown hset
        by_cases hlt : k < m
        · obtain ⟨x, hx⟩ : ∃ x, idx[k]? = some x := ⟨_, List.getElem?_eq_getElem (by rw [← Hn.out]; exact hlt)⟩
          obtain ⟨hx0, hx1⟩ := groupB_elem HG.out hx
          obtain ⟨i, rfl⟩ : ∃ i : Nat, x = (i : Int) := ⟨x.toNat, by omega⟩
          obtain ⟨b, off, rfl, hbs, c0⟩ := (Hr.out.below hb).get1 (show (idx.map (Value.int .i64))[k]? = some (.int .i64 (i : Int)) by simp [hx])
          have Hx := hide hx
          clear hx
          obtain ⟨⟨y0, y1, y2, y3, y4⟩, hy⟩ : ∃ h, l[i]? = some h := ⟨_, List.getElem?_eq_getElem (by rw [← Hl.out]; omega)⟩
          obtain ⟨b', off', rfl, hbs', d0, d1, d2, d3, d4⟩ := (Hr'.out.below hb).get5 (fun _ => rfl) hy rfl
          have HF := hide (show callF l (i : Int) = y4 by rw [callF, Int.toNat_natCast, hy])
          obtain ⟨_, _, _, _, y40, y41⟩ := callB_ok (show callB y0 y1 y2 y3 y4 = true from callsB_mem HC.out (List.mem_of_getElem? hy))
          have HK := hide (keyOf_int_mk (q := .i64) Try.underlying3 (a := y4) (WalkArith.wf_i64 (by omega)))
          clear hy
          dsimp only at d0 d1 d2 d3 d4
          go_wp2_with (at_mapUpdate; refine wpList_mapUpdate_own _ rfl _ _ _ 45 rfl 3 4 keyedInt Try.underlying45 _ n1.w.heap.size k _ rfl HO.out (by unfold maxLen; omega) _ _ _ rfl rfl HK.out _ [] (plainElem_bool Try.underlying4 true) ?_)
          intro w1 hown1 hg1
          have HO1 := hide hown1
          have HG1 := hide hg1
          clear hown1 hg1
          go_wp2
          go_roundw
          case rel => exact ⟨k + 1, by omega, by go_num, hide ⟨_, HO1.out, by have := setR_step HT.out Hx.out (by rw [HF.out]; exact keyedInt.key HK.out) (.lit (.bool true)); rw [HF.out] at this; exact this⟩, hb.grown HG1.out hb.size (fun g hg => by cases hg; exact HS.out)⟩
          case measure => simp [intOf]; omega
        · go_wp2_with (at_len; refine wpList_len_own _ rfl _ 45 rfl 3 4 Try.underlying45 _ n1.w.heap.size k _ rfl HO.out ?_)
          go_ret2
          exact ⟨ret_tup2 (by rw [callersV, HV.out, HT.out.2.1, putK_all (k := k) (by have := Hn.out; omega)]; rfl) HL.out.symm, hb⟩
end Go.Proofs.Ytmmeoabmjbclcaa
