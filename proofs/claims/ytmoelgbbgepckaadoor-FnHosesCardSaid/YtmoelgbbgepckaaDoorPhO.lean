/- A line handed back, or none. -/
import Derived.Test.YtmoelgbbgepckaaDoorParH
import Derived.Test.YtmoelgbbgepckaaDoorHoseU
import Derived.Test.YtmoelgbbgepckaaDoorParE
namespace Go.Proofs.YtmoelgbbgepckaaDoor
open Go.RowKit
set_option linter.unusedVariables false

theorem own_kept {w w' : World} {B n sz : Nat} {e : TypeId} {v : Value} {xs : List Value} {row : Option Nat} (h : w.ownsRow B e sz v n xs) (hg : w.grownBy w' row) (hne : ∀ k, v.ownBlock = some k → some k ≠ row) : w'.ownsRow B e sz v n xs :=
  h.kept hg (by
    cases hv : v.ownBlock with
    | none => exact .inl rfl
    | some g => exact .inr (hne g hv))
def outH (o : Option (List (Int × Int))) : List (Int × Int) := match o with
  | some x => x
  | none => []
def LineOut (o : Option (List (Int × Int))) (w : World) (e : Ending) (w' : World) : Prop :=
  (∃ v, e = .returned (.tuple #[v, .bool o.isSome]) ∧ w'.ownsRow w.heap.size 40 2 v (outH o).length ((outH o).flatMap hcells)) ∧ Below w.heap.size w w'
theorem LineOut.no {o : Option (List (Int × Int))} {w w' : World} (h : o = none) (hb : Below w.heap.size w w') : LineOut o w (.returned (.tuple #[.slice none 0 0, .bool false])) w' := by
  subst h
  exact ⟨⟨_, rfl, World.ownsRow_nil _ _ _ _⟩, hb⟩
theorem LineOut.yes {o : Option (List (Int × Int))} {l : List (Int × Int)} {w w' : World} {v : Value} (h : o = some l) (hv : w'.ownsRow w.heap.size 40 2 v l.length (l.flatMap hcells)) (hb : Below w.heap.size w w') : LineOut o w (.returned (.tuple #[v, .bool true])) w' := by
  subst h
  exact ⟨⟨_, rfl, hv⟩, hb⟩
theorem infoHoseP : (Tryd.prog.info? 40).map (fun i => (i.zero, i.size, i.bytes)) = some (some (.agg #[.int .i64 0, .int .i64 0]), 2, 16) := by kernel_rfl
theorem texts_ne {a b : ByteArray} (h : a ≠ b) : (a.toList == b.toList) = false := by rw [texts_eq, decide_eq_false h]
theorem map_take_succ {α β : Type} (f : α → β) {l : List α} {k : Nat} {a : α} (h : l[k]? = some a) : (l.take (k + 1)).map f = (l.take k).map f ++ [f a] := by
  rw [List.take_add_one, h, List.map_append]; rfl
theorem outH_le (s : ByteArray) : (outH (phS s)).length ≤ 1048576 := by
  cases h : phS s with
  | none => simp [outH]
  | some x =>
    have := (lineB_iff (phS_some h).1).2.2
    show x.length ≤ 1048576
    omega
/-- A piece of one byte or more: its first byte. -/
theorem head_at {p : ByteArray} (h : 0 < p.size) : p.data.toList.headD 0 = p[0] := by
  have e : p.data.toList = p[0] :: p.data.toList.drop 1 := List.drop_eq_getElem_cons (l := p.data.toList) (i := 0) (by simpa using h)
  rw [e]; rfl
theorem phI_bad {s p : ByteArray} (hp : p ∈ splitS (trimS s) 59) (h : hokI p = false) : phI s = none := by
  unfold phI
  rw [if_neg]
  intro hc
  simp only [Bool.and_eq_true, List.all_eq_true] at hc
  rw [hc.1.1 p hp] at h
  cases h
theorem phI_good {s : ByteArray} (h : (splitS (trimS s) 59).all hokI = true) : phI s = if lineB ((splitS (trimS s) 59).map hpI) && decide (lineText ((splitS (trimS s) 59).map hpI) = s) then some ((splitS (trimS s) 59).map hpI) else none := by
  rw [phI, h, Bool.true_and]
theorem trim_size (s : ByteArray) : (trimS s).size ≤ s.size := by
  show (Lib.trimSuffix s.data.toList [59]).length ≤ s.data.toList.length
  exact Lib.trimSuffix_le _ _

set_option maxHeartbeats 1000000 in
theorem isLineBig_any (A : Option Addr) (n c : Nat) (hs : List (Int × Int)) (w : World) (hn : n = hs.length) (hm : n ≤ 2000000) (hr : Rd w A (hs.flatMap hcells)) :
    Calls Tryd.prog 58 #[.slice A n c] w fun e w' => e = .returned (.bool (lineB hs)) ∧ Below w.heap.size w w' := by
  have Hn := hide hn
  clear hn
  have Hr := hide hr
  clear hr
  go_enter Tryd.func58, Tryd.ntmps58
  go_wp2_with fail
  go_loopw [7] (fun t wr => ∃ k : Nat, k ≤ n ∧ t = .int .i64 k ∧ Hid (hosesB (hs.take k) = true) ∧ Below w.heap.size w wr) (fun t _ => n - (intOf t).toNat)
  case atStart => exact ⟨0, by omega, rfl, hide (by simp [hosesB]), Below.refl _ _⟩
  case round =>
    obtain ⟨k, hk, rfl, HA, hb⟩ := hrel
    by_cases hlt : k < n
    · obtain ⟨⟨x, y⟩, hh⟩ : ∃ h, hs[k]? = some h := ⟨_, List.getElem?_eq_getElem (by rw [← Hn.out]; exact hlt)⟩
      obtain ⟨b, off, rfl, hbs, c0, c1⟩ := (Hr.out.below hb).get2 (fun _ => rfl) hh rfl
      have Hh := hide hh
      clear hh
      dsimp only at c0 c1
      cases hx : hoseB x y with
      | true =>
        have c := fun w => isHose_any x y w
        rw [hx] at c
        have Hx := hide hx
        clear hx
        go_wp2_with (go_at_call 75; ((with_reducible refine (c _).mono ?_); rintro e w1 ⟨rfl, hb1⟩); obtain ⟨hc1, hf1⟩ := bcell hb1)
        go_roundw
        case rel => exact ⟨k + 1, by omega, by go_num, hide (all_take_succ _ Hh.out HA.out Hx.out), (hb.alloc hb.size _).trans (hb1.mono (by have := hb.size; simp; omega))⟩
        case measure => simp [intOf]; omega
      | false =>
        have c := fun w => isHose_any x y w
        rw [hx] at c
        have Hx := hide hx
        clear hx
        go_wp2_with (go_at_call 75; ((with_reducible refine (c _).mono ?_); rintro e w1 ⟨rfl, hb1⟩); obtain ⟨hc1, hf1⟩ := bcell hb1)
        go_ret
        exact ⟨ret_bool (by rw [lineB, hosesB, all_false_of _ Hh.out Hx.out]; rfl), (hb.alloc hb.size _).trans (hb1.mono (by have := hb.size; simp; omega))⟩
    · go_wp2_with (go_at_call 68; ((with_reducible refine (inside_any _ _ _ _).mono ?_); rintro e w' ⟨rfl, rfl⟩))
      go_ret
      exact ⟨ret_bool (by rw [lineB, hosesB, all_of_take _ (by have := Hn.out; omega) HA.out, Hn.out]; rfl), hb⟩
end Go.Proofs.YtmoelgbbgepckaaDoor
