/- Cuts and fields of texts: the plain side. -/
import Derived.Test.YtpkhdmhfkmajcaaDoorParN
import Derived.Lib.FieldsLaws
import Derived.Lib.CutLaws
namespace Go.Proofs.YtpkhdmhfkmajcaaDoor
open Go.RowKit
set_option linter.unusedVariables false

theorem index_byte {b : UInt8} (r : List UInt8) : ∀ {p : List UInt8}, (∀ x ∈ p, x ≠ b) → Lib.index (p ++ b :: r) [b] = (p.length : Int)
  | [], _ => by rw [List.nil_append, Lib.index]; simp [List.isPrefixOf]
  | c :: p, h => by
    have hc : c ≠ b := h c (List.mem_cons_self ..)
    have ih := index_byte r (p := p) (fun x hx => h x (List.mem_cons_of_mem _ hx))
    have hp : ([b] : List UInt8).isPrefixOf (c :: (p ++ b :: r)) = false := by simp [List.isPrefixOf, Ne.symm hc]
    have hx : Lib.index (c :: (p ++ b :: r)) [b] = if Lib.index (p ++ b :: r) [b] == -1 then -1 else Lib.index (p ++ b :: r) [b] + 1 := by rw [Lib.index, hp]; simp
    rw [List.cons_append, hx, ih, if_neg (fun e => by have := beq_iff_eq.1 e; omega), List.length_cons]
    omega
theorem cut_byte {b : UInt8} {p r : List UInt8} (h : ∀ x ∈ p, x ≠ b) : Lib.cut (p ++ b :: r) [b] = (p, r, true) := by
  unfold Lib.cut
  rw [index_byte r h, if_pos (by omega)]
  simp
theorem go_word : ∀ (v cur r : List UInt8), (∀ c ∈ v, Lib.isSp c = false) → Lib.fieldsGo cur (v ++ r) = Lib.fieldsGo (cur ++ v) r
  | [], cur, r, _ => by simp
  | c :: v, cur, r, h => by
    rw [List.cons_append, Lib.fieldsGo_more _ _ _ (h c (List.mem_cons_self ..)), go_word v _ r (fun x hx => h x (List.mem_cons_of_mem _ hx))]
    simp
theorem sp32 : Lib.isSp 32 = true := by decide
/-- Words with a space behind each. -/
theorem fields_ends : ∀ {ws : List (List UInt8)}, (∀ v ∈ ws, v ≠ [] ∧ ∀ c ∈ v, Lib.isSp c = false) → Lib.fields (ws.flatMap (· ++ [32])) = ws
  | [], _ => rfl
  | v :: ws, h => by
    obtain ⟨h1, h2⟩ := h v (List.mem_cons_self ..)
    have ih := fields_ends (ws := ws) (fun x hx => h x (List.mem_cons_of_mem _ hx))
    unfold Lib.fields at ih ⊢
    rw [List.flatMap_cons, List.append_assoc, List.singleton_append, go_word v [] _ h2, List.nil_append, Lib.fieldsGo_end v 32 _ sp32 h1, ih]
theorem go_begins : ∀ {ws : List (List UInt8)} {v : List UInt8}, v ≠ [] → (∀ v ∈ ws, v ≠ [] ∧ ∀ c ∈ v, Lib.isSp c = false) → Lib.fieldsGo v (ws.flatMap (32 :: ·)) = v :: ws
  | [], v, h1, _ => by cases v with
    | nil => exact absurd rfl h1
    | cons a v => rfl
  | x :: ws, v, h1, h => by
    obtain ⟨h2, h3⟩ := h x (List.mem_cons_self ..)
    rw [List.flatMap_cons, List.cons_append, Lib.fieldsGo_end v 32 _ sp32 h1, go_word x [] _ h3, List.nil_append, go_begins (ws := ws) h2 (fun y hy => h y (List.mem_cons_of_mem _ hy))]
/-- Words with a space ahead of each. -/
theorem fields_begins {ws : List (List UInt8)} (h : ∀ v ∈ ws, v ≠ [] ∧ ∀ c ∈ v, Lib.isSp c = false) : Lib.fields (ws.flatMap (32 :: ·)) = ws := by
  cases ws with
  | nil => rfl
  | cons v ws =>
    obtain ⟨h1, h2⟩ := h v (List.mem_cons_self ..)
    unfold Lib.fields
    rw [List.flatMap_cons, List.cons_append, Lib.fieldsGo_sp 32 _ sp32, go_word v [] _ h2, List.nil_append, go_begins h1 (fun y hy => h y (List.mem_cons_of_mem _ hy))]
theorem dig_facts {c : UInt8} (h : isDig c) : c ≠ 32 ∧ c ≠ 45 ∧ c ≠ 47 ∧ c ≠ 58 ∧ c ≠ 59 ∧ c ≠ 61 ∧ c ≠ 124 ∧ Lib.isSp c = false ∧ c.toNat < 128 := by
  have h1 := h.1
  have h2 := h.2
  have ne : ∀ d : UInt8, c.toNat ≠ d.toNat → c ≠ d := fun d hd e => hd (by rw [e])
  refine ⟨ne _ ?_, ne _ ?_, ne _ ?_, ne _ ?_, ne _ ?_, ne _ ?_, ne _ ?_, ?_, by omega⟩
  · show c.toNat ≠ 32; omega
  · show c.toNat ≠ 45; omega
  · show c.toNat ≠ 47; omega
  · show c.toNat ≠ 58; omega
  · show c.toNat ≠ 59; omega
  · show c.toNat ≠ 61; omega
  · show c.toNat ≠ 124; omega
  · cases hs : Lib.isSp c with
    | false => rfl
    | true =>
      exfalso
      simp only [Lib.isSp, Bool.or_eq_true, beq_iff_eq] at hs
      rcases hs with ((((rfl | rfl) | rfl) | rfl) | rfl) | rfl <;> revert h1 <;> decide
theorem index_no {b : UInt8} : ∀ {l : List UInt8}, (∀ x ∈ l, x ≠ b) → Lib.index l [b] = -1
  | [], _ => by simp [Lib.index]
  | c :: l, h => by
    have hc : c ≠ b := h c (List.mem_cons_self ..)
    have ih := index_no (l := l) (fun x hx => h x (List.mem_cons_of_mem _ hx))
    have hp : ([b] : List UInt8).isPrefixOf (c :: l) = false := by simp [List.isPrefixOf, Ne.symm hc]
    have hx : Lib.index (c :: l) [b] = if Lib.index l [b] == -1 then -1 else Lib.index l [b] + 1 := by rw [Lib.index, hp]; simp
    rw [hx, ih]; rfl
theorem cut_no {b : UInt8} {l : List UInt8} (h : ∀ x ∈ l, x ≠ b) : Lib.cut l [b] = (l, [], false) := by
  unfold Lib.cut
  rw [index_no h, if_neg (by omega)]
theorem cut_cases (b : UInt8) (l : List UInt8) : (∀ x ∈ l, x ≠ b) ∨ ∃ p r, l = p ++ b :: r ∧ ∀ x ∈ p, x ≠ b := by
  by_cases h : b ∈ l
  · obtain ⟨p, r, e, hp⟩ := List.eq_append_cons_of_mem h
    exact .inr ⟨p, r, e, fun x hx e => hp (e ▸ hx)⟩
  · exact .inl fun x hx e => h (e ▸ hx)
theorem bytes_eq {a b : ByteArray} (h : a.data.toList = b.data.toList) : a = b := by apply ByteArray.ext; apply Array.ext'; exact h
theorem lists_eq {L : List ByteArray} {M : List ByteArray} (h : L.map (·.data.toList) = M.map (·.data.toList)) : L = M :=
  (List.map_inj_right (fun a b => bytes_eq)).1 h
/-- What the program cuts off ahead of a byte, and behind it. -/
def cutA (s : ByteArray) (b : UInt8) : ByteArray := ⟨(Lib.cut s.data.toList [b]).1.toArray⟩
def cutB (s : ByteArray) (b : UInt8) : ByteArray := ⟨(Lib.cut s.data.toList [b]).2.1.toArray⟩

end Go.Proofs.YtpkhdmhfkmajcaaDoor
