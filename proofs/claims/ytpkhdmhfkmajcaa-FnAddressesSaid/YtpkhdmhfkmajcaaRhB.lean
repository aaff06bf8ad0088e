/- A house removed: the program's way. -/
import Derived.Test.YtpkhdmhfkmajcaaRhA
import Derived.Test.YtpkhdmhfkmajcaaStrF
namespace Go.Proofs.Ytpkhdmhfkmajcaa
open Go.RowKit
set_option linter.unusedVariables false

def rhO (l : List StrT) (s : ByteArray) (h : Int) : Option (List StrT) :=
  if strsB l && roadB s && inB h 1 999 then
    (match l[(findI (findP s h) l).toNat]? with
    | some x => if 0 ≤ findI (findP s h) l ∧ strsB (rhN l (findI (findP s h) l).toNat x h) = true then some (rhN l (findI (findP s h) l).toNat x h) else none
    | none => none)
  else none
def rhL (l : List StrT) (s : ByteArray) (h : Int) : List StrT := (rhO l s h).getD []
def RhPost (l : List StrT) (s : ByteArray) (h : Int) (w : World) (e : Ending) (w' : World) : Prop :=
  (∃ v, e = .returned (.tuple #[v, .bool (rhO l s h).isSome]) ∧ w'.ownsRow w.heap.size 25 5 v (rhL l s h).length ((rhL l s h).flatMap scells)) ∧ Below w.heap.size w w'
theorem RhPost.no {l : List StrT} {s : ByteArray} {h : Int} {w w' : World} (ho : rhO l s h = none) (hb : Below w.heap.size w w') : RhPost l s h w (.returned (.tuple #[.slice none 0 0, .bool false])) w' :=
  ⟨⟨_, by rw [ho]; rfl, by rw [rhL, ho]; exact World.ownsRow_nil _ _ _ _⟩, hb⟩
theorem RhPost.yes {l r : List StrT} {s : ByteArray} {h : Int} {w w' : World} {v : Value} {n : Nat} (ho : rhO l s h = some r) (hn : n = r.length) (hv : w'.ownsRow w.heap.size 25 5 v n (r.flatMap scells)) (hb : Below w.heap.size w w') : RhPost l s h w (.returned (.tuple #[v, .bool true])) w' :=
  ⟨⟨_, by rw [ho]; rfl, by rw [rhL, ho]; show w'.ownsRow _ _ _ _ r.length _; rw [← hn]; exact hv⟩, hb⟩
theorem rhO_bad {l : List StrT} {s : ByteArray} {h : Int} (hv : (strsB l && roadB s && inB h 1 999) = false) : rhO l s h = none := by rw [rhO, hv]; rfl
theorem rhO_lost {l : List StrT} {s : ByteArray} {h : Int} (hf : findI (findP s h) l < 0) : rhO l s h = none := by
  rw [rhO]
  split
  · split
    · rw [if_neg (by omega)]
    · rfl
  · rfl
theorem rhO_at {l : List StrT} {s : ByteArray} {h : Int} {k : Nat} {x : StrT} (hv : (strsB l && roadB s && inB h 1 999) = true) (hf : findI (findP s h) l = (k : Nat)) (hx : l[k]? = some x) : rhO l s h = if strsB (rhN l k x h) then some (rhN l k x h) else none := by
  rw [rhO, if_pos hv, hf, Int.toNat_natCast, hx]
  by_cases hc : strsB (rhN l k x h) = true
  · simp [hc]
  · simp [hc]
theorem strsB_le {l : List StrT} (h : strsB l = true) : l.length ≤ 30 := by
  rw [strsB, Bool.and_eq_true] at h
  simpa using h.2
theorem rhN_length {l : List StrT} {k : Nat} {x : StrT} {h : Int} (hx : l[k]? = some x) : (rhN l k x h).length = k + (belowL x h).length + (aboveL x h).length + (l.length - (k + 1)) := by
  have := (List.getElem?_eq_some_iff.1 hx).1
  simp [rhN]
  omega
theorem rhN_road {l : List StrT} {k : Nat} {x : StrT} {h : Int} (hx : l[k]? = some x) (hs : ∀ y ∈ l, y.1.size ≤ maxLen) : ∀ y ∈ rhN l k x h, y.1.size ≤ maxLen := by
  have h0 := hs x (List.mem_of_getElem? hx)
  intro y hy
  simp only [rhN, List.mem_append] at hy
  rcases hy with ((hy | hy) | hy) | hy
  · exact hs y (List.mem_of_mem_take hy)
  · unfold belowL at hy
    split at hy
    · simp at hy; subst hy; exact h0
    · simp at hy
  · unfold aboveL at hy
    split at hy
    · simp at hy; subst hy; exact h0
    · simp at hy
  · exact hs y (List.mem_of_mem_drop hy)

set_option maxRecDepth 100000 in
set_option maxHeartbeats 2000000 in
theorem cloneStretch_any (A : Option Addr) (n c : Nat) (l : List (ByteArray × Int × Int × Int × Int)) (w : World) (hn : n = l.length) (hm : n ≤ 1048576) (hr : Rd w A (l.flatMap scells)) :
    Calls Try.prog 32 #[.slice A n c] w fun e w' => (∃ v, e = .returned v ∧ w'.ownsRow w.heap.size 25 5 v n (l.flatMap scells)) ∧ Below w.heap.size w w' := by
  have hnil := fun W => Lib.run_eql_slice_nil (P := Try.prog) W 23 25 A n c 0 0 Try.underlying23
  cases A with
  | none =>
    have hl : l = [] := by
      rcases hr with h | ⟨b, off, hA, _⟩
      · match l, h with
        | [], _ => rfl
        | x :: l, h => simp [scells] at h
      · cases hA
    subst hl
    have hn0 : n = 0 := by simpa using hn
    subst hn0
    clear hr hn
    go_enter Try.func32, Try.ntmps32
    go_wp2
    go_ret
    exact ⟨⟨_, rfl, World.ownsRow_nil _ _ _ _⟩, (by repeat (first | exact Below.refl _ _ | refine below_step ?_ (by assumption) | refine below_step ?_ (Later.below _) | refine below_alloc ?_ _ | refine Below.drew ?_ | refine Below.setCell ?_ (by first | (simp; done) | (simp; omega)) _))⟩
  | some ad =>
    obtain ⟨i0, hi, hz0, hz1, hz2⟩ := info_parts infoStretch
    have hO1 : (w.alloc (.cells #[] 25)).ownsRow w.heap.size 25 5 (.slice (some ⟨w.heap.size, 0, none⟩) 0 0) 0 [] := World.ownsRow_made w #[] 0 (Nat.le_refl _) (Nat.zero_le _) rfl
    have HO1 := hide hO1
    have Hn := hide hn
    have hrd : ∀ j u, (l.flatMap scells)[j]? = some u → (w.alloc (.cells #[] 25)).cell? (ad.add j) = some u := fun j u hu => by
      rcases hr.alloc (.cells #[] 25) with h | ⟨b, off, hA, hc⟩
      · rw [h] at hu; simp at hu
      · injection hA with hA
        subst hA
        rw [Addr.add_lit]
        exact hc j u hu
    have Hr := hide hrd
    have Hi := hide hi
    have Hz := hide (And.intro hz0 (And.intro hz1 hz2))
    clear hO1 hn hr hrd hi hz0 hz1 hz2
    go_enter Try.func32, Try.ntmps32
    go_wp2_with (at_builtin; refine wpList_append_own _ rfl (.tmp 5) (.tmp 6) 23 rfl w.heap.size 25 i0 _ 5 48 Try.underlying23 Hi.out Hz.out.1 Hz.out.2.1 Hz.out.2.2 rfl (by decide) (.slice (some ⟨w.heap.size, 0, none⟩) 0 0) 0 [] rfl HO1.out ad n c (l.flatMap scells) rfl ?c1 Hr.out (scells_one l) ?c2 ?c3 ?c4 ?_)
    case c1 => rw [flat_length scells 5 (fun _ => rfl)]; have := Hn.out; omega
    case c2 => unfold maxLen; omega
    case c3 => omega
    case c4 => simp
    intro v' w1 hown hgrow _
    have HOW := hide hown
    have HG : Hid (Below w.heap.size w w1) := hide ((below_alloc (Below.refl _ _) _).grown hgrow (by simp) (fun k hk => by simp [Value.ownBlock] at hk; omega))
    clear hown hgrow
    go_wp2
    go_ret
    exact ⟨⟨_, rfl, by have := HOW.out; simpa using this⟩, HG.out⟩
end Go.Proofs.Ytpkhdmhfkmajcaa
