/- Rows of structs: cloned, and one taken out. -/
import Derived.Test.YtbkhejkncmgdeaaTownX
import Derived.Test.YtbkhejkncmgdeaaRegionsS
import Derived.IntWalk
namespace Go.Proofs.Ytbkhejkncmgdeaa
open Go.RowKit
set_option linter.unusedVariables false

theorem flat_take {α : Type} (f : α → List Value) (m : Nat) (hf : ∀ a, (f a).length = m) (l : List α) (k : Nat) : (l.flatMap f).take (k * m) = (l.take k).flatMap f := by
  induction l generalizing k with
  | nil => simp
  | cons a l ih =>
    cases k with
    | zero => simp
    | succ k =>
      rw [List.flatMap_cons, List.take_succ_cons, List.flatMap_cons, List.take_append, List.take_of_length_le (by rw [hf, Nat.add_mul]; omega), hf, show (k + 1) * m - m = k * m by rw [Nat.add_mul]; omega, ih]
theorem flat_drop {α : Type} (f : α → List Value) (m : Nat) (hf : ∀ a, (f a).length = m) (l : List α) (k : Nat) : (l.flatMap f).drop (k * m) = (l.drop k).flatMap f := by
  induction l generalizing k with
  | nil => simp
  | cons a l ih =>
    cases k with
    | zero => simp
    | succ k =>
      rw [List.flatMap_cons, List.drop_succ_cons, List.drop_append, List.drop_of_length_le (by rw [hf, Nat.add_mul]; omega), hf, show (k + 1) * m - m = k * m by rw [Nat.add_mul]; omega, ih, List.nil_append]
theorem own_prefix {w : World} {B g n cap sz k : Nat} {e : TypeId} {xs : List Value} (h : w.ownsRow B e sz (.slice (some ⟨g, 0, none⟩) n cap) n xs) (hk : k ≤ n) : w.ownsRow B e sz (.slice (some ⟨g, 0, none⟩) k cap) k (xs.take (k * sz)) := by
  have hl : k * sz ≤ n * sz := Nat.mul_le_mul_right _ hk
  rcases h.2 with ⟨h', _⟩ | ⟨g', cap', cur, h', hb, hg, hnc, hcm, hcs, ht⟩
  · simp at h'
  · simp only [Value.slice.injEq, Option.some.injEq, Addr.mk.injEq, and_true, true_and] at h'
    obtain ⟨rfl, rfl⟩ := h'
    refine ⟨by rw [List.length_take, h.1]; omega, .inr ⟨g, cap, cur, rfl, hb, hg, by omega, hcm, hcs, ?_⟩⟩
    rw [← ht, List.take_take, Nat.min_eq_left hl]
def cutL {α : Type} (l : List α) (i : Nat) : List α := l.take i ++ l.drop (i + 1)
theorem cutL_length {α : Type} {l : List α} {i : Nat} (h : i < l.length) : (cutL l i).length = l.length - 1 := by simp [cutL]; omega
theorem tcells_one (l : List (Int × Int × Int)) : ∀ u ∈ l.flatMap tcells, u.oneCell' = true := by
  intro u hu
  obtain ⟨t, _, ht⟩ := List.mem_flatMap.1 hu
  simp [tcells] at ht
  rcases ht with rfl | rfl | rfl <;> rfl
theorem Rd.add {w : World} {b off : Nat} {xs : List Value} (h : Rd w (some ⟨b, off, none⟩) xs) : ∀ j u, xs[j]? = some u → w.cell? ((⟨b, off, none⟩ : Addr).add j) = some u := by
  intro j u hu
  rw [Addr.add_lit]
  rcases h with h | ⟨b', off', hA, hc⟩
  · subst h; simp at hu
  · cases hA
    exact hc j u hu
theorem Rd.part {w : World} {b off : Nat} {xs : List Value} (h : Rd w (some ⟨b, off, none⟩) xs) (k m : Nat) : Rd w (some ⟨b, off + k, none⟩) ((xs.drop k).take m) := by
  refine .inr ⟨b, off + k, rfl, fun j u hu => ?_⟩
  rw [List.getElem?_take] at hu
  split at hu
  · rw [List.getElem?_drop] at hu
    have := h.add (k + j) u hu
    rw [Addr.add_lit] at this
    rwa [Nat.add_assoc]
  · cases hu

set_option maxRecDepth 100000 in
set_option maxHeartbeats 2000000 in
theorem clone_any (b off n c : Nat) (l : List (Int × Int × Int)) (w : World) (hn : n = l.length) (hm : n ≤ 1048576) (hr : Rd w (some ⟨b, off, none⟩) (l.flatMap tcells)) :
    Calls Try.prog 39 #[.slice (some ⟨b, off, none⟩) n c] w fun e w' => (∃ v, e = .returned v ∧ w'.ownsRow w.heap.size 34 3 v n (l.flatMap tcells)) ∧ Below w.heap.size w w' := by
  obtain ⟨i0, hi, hz0, hz1, hz2⟩ := info_parts infoStreet
  have hO1 : (w.alloc (.cells #[] 34)).ownsRow w.heap.size 34 3 (.slice (some ⟨w.heap.size, 0, none⟩) 0 0) 0 [] := World.ownsRow_made w #[] 0 (Nat.le_refl _) (Nat.zero_le _) rfl
  have HO1 := hide hO1
  have Hn := hide hn
  have Hr := hide (hr.alloc (.cells #[] 34)).add
  have Hi := hide hi
  have Hz := hide (And.intro hz0 (And.intro hz1 hz2))
  have hnil : ∀ W, (binOp .eql 28 (.slice (some ⟨b, off, none⟩) n c) (.slice none 0 0)).run Try.prog W = .ok (.bool false) W := fun W => Lib.run_eql_slice_nil W _ _ (some ⟨b, off, none⟩) n c 0 0 Try.underlying28
  clear hO1 hn hr hi hz0 hz1 hz2
  go_enter Try.func39, Try.ntmps39
  go_wp2_with (at_builtin; refine wpList_append_own _ rfl (.tmp 5) (.tmp 6) 28 rfl w.heap.size 34 i0 _ 3 24 Try.underlying28 Hi.out Hz.out.1 Hz.out.2.1 Hz.out.2.2 rfl (by decide) (.slice (some ⟨w.heap.size, 0, none⟩) 0 0) 0 [] rfl HO1.out ⟨b, off, none⟩ n c (l.flatMap tcells) rfl ?c1 Hr.out (tcells_one l) ?c2 ?c3 ?c4 ?_)
  case c1 => rw [flat_length tcells 3 (fun _ => rfl)]; have := Hn.out; omega
  case c2 => unfold maxLen; omega
  case c3 => omega
  case c4 => simp
  intro v' w1 hown hgrow _
  have HOW := hide hown
  have HG : Hid (Below w.heap.size w w1) := hide ((below_alloc (Below.refl _ _) _).grown hgrow (by simp) (fun k hk => by simp [Value.ownBlock] at hk; omega))
  clear hown hgrow
  go_wp2
  go_ret
  exact ⟨⟨_, rfl, HOW.out⟩, HG.out⟩

theorem zero3 : (Builtin.zeroCells (Value.agg #[.int .i64 0, .int .i64 0, .int .i64 0]).cells 1).toList = [.int .i64 0, .int .i64 0, .int .i64 0] := by simp [Builtin.zeroCells, Value.cells]; rfl

end Go.Proofs.Ytbkhejkncmgdeaa
