/- Lists of lists of the call's own: compared, marked and held by the laws. -/
import Derived.Test.YtobdebagijmkjaaGapC
namespace Go.Proofs.Ytobdebagijmkjaa
open Go.RowKit
set_option linter.unusedVariables false

def pcells (p : Int × Int) : List Value := [.int .i64 p.1, .int .i64 p.2]
/-- The same, with a bound on where all of it lies. -/
def NestU (w : World) (B N : Nat) (v : Value) (L : List (Int × Int)) : Prop :=
  ∃ bs : List Nat, (bs.length = L.length ∧ bs.Nodup ∧ w.ownsRow B 60 1 v L.length (bs.map hdr) ∧ (∀ b ∈ bs, B ≤ b ∧ v.ownBlock ≠ some b) ∧
    ∀ (i : Nat) (b : Nat) (p : Int × Int), bs[i]? = some b → L[i]? = some p → w.heap[b]? = some (.cells #[.int .i64 p.1, .int .i64 p.2] 3 (0, 0))) ∧ (∀ b ∈ bs, b < N) ∧ ∀ k, v.ownBlock = some k → k < N
theorem NestU.nest {w : World} {B N : Nat} {v : Value} {L : List (Int × Int)} (h : NestU w B N v L) : Nest w B v L := by
  obtain ⟨bs, h1, -, -⟩ := h
  exact ⟨bs, h1⟩
theorem NestU.low {w w' : World} {B N : Nat} {v : Value} {L : List (Int × Int)} (h : NestU w B N v L) (hb : Below N w w') : NestU w' B N v L := by
  obtain ⟨bs, ⟨h1, h2, h3, h4, h5⟩, h6, h7⟩ := h
  refine ⟨bs, ⟨h1, h2, own_low h3 hb h7, h4, fun i b p hi hp => ?_⟩, h6, h7⟩
  rw [hb.block b (h6 b (List.mem_of_getElem? hi))]
  exact h5 i b p hi hp
/-- A write to older memory. -/
theorem Nest.far {w w' : World} {B g : Nat} {v : Value} {L : List (Int × Int)} (h : Nest w B v L) (hg : w.grownBy w' (some g)) (hB : g < B) : Nest w' B v L := by
  obtain ⟨bs, h1, h2, h3, h4, h5⟩ := h
  refine ⟨bs, h1, h2, own_far h3 hg hB, h4, fun i b p hi hp => ?_⟩
  have hc := h5 i b p hi hp
  have hb := (h4 b (List.mem_of_getElem? hi)).1
  rw [hg.block b (Array.getElem?_eq_some_iff.1 hc).1 (fun e => by injection e with e; omega)]
  exact hc
/-- One inner row turned. -/
theorem Nest.set {w w' : World} {B b q : Nat} {v : Value} {L : List (Int × Int)} {bs : List Nat} {x y : Int}
    (h1 : bs.length = L.length) (h2 : bs.Nodup) (h3 : w.ownsRow B 60 1 v L.length (bs.map hdr)) (h4 : ∀ b ∈ bs, B ≤ b ∧ v.ownBlock ≠ some b)
    (h5 : ∀ (i : Nat) (b : Nat) (p : Int × Int), bs[i]? = some b → L[i]? = some p → w.heap[b]? = some (.cells #[.int .i64 p.1, .int .i64 p.2] 3 (0, 0)))
    (hb : bs[q]? = some b) (ho : w'.ownsRow B 3 1 (hdr b) 2 [.int .i64 x, .int .i64 y]) (hg : w.grownBy w' (some b)) : Nest w' B v (L.set q (x, y)) := by
  have hbm := List.mem_of_getElem? hb
  have hrow : w'.heap[b]? = some (.cells #[.int .i64 x, .int .i64 y] 3 (0, 0)) := by
    rcases ho.2 with ⟨h, _⟩ | ⟨g, cap, cur, h, hBg, hh, _, _, hs, ht⟩
    · simp [hdr] at h
    · simp only [hdr, Value.slice.injEq, Option.some.injEq, Addr.mk.injEq, and_true, true_and] at h
      obtain ⟨rfl, rfl⟩ := h
      have hc : cur = #[.int .i64 x, .int .i64 y] := by
        apply Array.ext'
        rw [← ht, List.take_of_length_le (by rw [Array.length_toList, hs]; omega)]
      rw [hh, hc]
  refine ⟨bs, by simpa using h1, h2, ?_, h4, fun i b' p hi hp => ?_⟩
  · rw [List.length_set]
    exact h3.kept hg (.inr (h4 b hbm).2)
  · by_cases hiq : i = q
    · subst hiq
      rw [hb] at hi
      injection hi with hi
      subst hi
      rw [List.getElem?_set_self (by rw [← h1]; exact (List.getElem?_eq_some_iff.1 hb).1)] at hp
      injection hp with hp
      subst hp
      exact hrow
    · rw [List.getElem?_set_ne (fun e => hiq e.symm)] at hp
      have hc := h5 i b' p hi hp
      have hne : b' ≠ b := fun e => hiq (by
        subst e
        exact (List.getElem?_inj (List.getElem?_eq_some_iff.1 hi).1 h2).1 (by rw [hi, hb]))
      rw [hg.block b' (Array.getElem?_eq_some_iff.1 hc).1 (fun e => hne (by injection e))]
      exact hc
theorem heap_rd {w : World} {b : Nat} {x y : Int} (h : w.heap[b]? = some (.cells #[.int .i64 x, .int .i64 y] 3 (0, 0))) : Rd w (some ⟨b, 0, none⟩) ([x, y].map (Value.int .i64)) :=
  .inr ⟨b, 0, rfl, fun j u hu => by rw [Nat.zero_add, heap_cell h]; simpa using hu⟩

set_option maxHeartbeats 4000000 in
theorem eqIntSS_same (B B' : Nat) (v u : Value) (L : List (Int × Int)) (w : World) (hv : Nest w B v L) (hu : Nest w B' u L) (hm : L.length ≤ 1000) :
    Calls Try.prog 20 #[v, u] w fun e w' => e = .returned (.bool true) ∧ Below w.heap.size w w' := by
  obtain ⟨bs, ⟨a1, -, a3, -, a5⟩, -, -⟩ := hv.lt
  obtain ⟨cs, ⟨b1, -, b3, -, b5⟩, -, -⟩ := hu.lt
  obtain ⟨A, k1, rfl, ra, -⟩ := own_open a3
  obtain ⟨C, k2, rfl, rb, -⟩ := own_open b3
  have RA := hide ra
  have RB := hide rb
  have HA := hide (And.intro a1 a5)
  have HB := hide (And.intro b1 b5)
  clear ra rb a1 a3 a5 b1 b3 b5 hv hu
  go_enter Try.func20, Try.ntmps20
  go_wp2_with fail
  go_loopw [5] (fun t wr => ∃ k : Nat, k ≤ L.length ∧ t = .int .i64 k ∧ Below w.heap.size w wr) (fun t _ => L.length - (intOf t).toNat)
  case atStart => exact ⟨0, by omega, rfl, Below.refl _ _⟩
  case round =>
    obtain ⟨k, hk, rfl, hb⟩ := hrel
    by_cases hlt : k < L.length
    · obtain ⟨⟨x, y⟩, hp⟩ : ∃ p, L[k]? = some p := ⟨_, List.getElem?_eq_getElem hlt⟩
      obtain ⟨b1, hb1⟩ : ∃ b, bs[k]? = some b := ⟨_, List.getElem?_eq_getElem (by rw [HA.out.1]; exact hlt)⟩
      obtain ⟨b2, hb2⟩ : ∃ b, cs[k]? = some b := ⟨_, List.getElem?_eq_getElem (by rw [HB.out.1]; exact hlt)⟩
      have RX := hide (heap_rd (HA.out.2 k b1 _ hb1 hp))
      have RY := hide (heap_rd (HB.out.2 k b2 _ hb2 hp))
      obtain ⟨b, off, rfl, hbs, c0⟩ := (RA.out.below hb).get1 (show (bs.map hdr)[k]? = some (hdr b1) by rw [List.getElem?_map, hb1]; rfl)
      obtain ⟨b', off', rfl, hbs', d0⟩ := (RB.out.below hb).get1 (show (cs.map hdr)[k]? = some (hdr b2) by rw [List.getElem?_map, hb2]; rfl)
      unfold hdr at c0 d0
      have QE := hide (fun (W : World) (hW : Below wr.heap.size wr W) => eqIntS_same (some ⟨b1, 0, none⟩) (some ⟨b2, 0, none⟩) 2 2 2 [x, y] W rfl (by omega) (RX.out.below (below_step hb hW)) (RY.out.below (below_step hb hW)))
      have hi0 : (0 : Int) ≤ (k : Int) := by omega
      have hi1 : (k : Int) < (L.length : Int) := by omega
      clear hp hb1 hb2
      go_wp2_with fail
      refine wp_region_later (by kernel_rfl) (by kernel_rfl) ?_
      repeat (go_big_quiet_step ((go_at_call 55; exact calls_later (QE.out _ (Later.below _)))))
      refine wpQuiet_nil ?_
      refine later_intro fun w1 hb1 => ?_
      have HB1 := hide (below_step hb hb1)
      clear hb1 c0 d0 hbs hbs' QE
      go_wp2
      go_roundw
      case rel => exact ⟨k + 1, by omega, by go_num, HB1.out⟩
      case measure => simp [intOf]; omega
    · go_wp2
      go_ret
      exact ⟨rfl, hb⟩

def marksP (t : Int) (n : Nat) : List (Int × Int) := (List.range n).map fun i : Nat => (t + 2 * (i : Int), t + 2 * (i : Int) + 1)
theorem marksP_length (t : Int) (n : Nat) : (marksP t n).length = n := by simp [marksP]
theorem marksP_set {t : Int} {q : Nat} {L : List (Int × Int)} (h : q < L.length) : (marksP t q ++ L.drop q).set q (t + 2 * (q : Int), t + 2 * (q : Int) + 1) = marksP t (q + 1) ++ L.drop (q + 1) := by
  rw [List.set_append_right _ _ (by simp [marksP_length]), marksP_length, Nat.sub_self, List.drop_eq_getElem_cons h, List.set_cons_zero]
  simp [marksP, List.range_succ]

set_option maxHeartbeats 4000000 in
theorem markIntSS_any (B : Nat) (v : Value) (L : List (Int × Int)) (t : Int) (w : World) (h : Nest w B v L) (hm : L.length ≤ 1000) (h0 : 0 ≤ t) (h1 : t ≤ 1000) (hBw : B ≤ w.heap.size) :
    Calls Try.prog 21 #[v, .int .i64 t] w fun e w' => e = .returned (.int .i64 (t + 2 * L.length)) ∧ Nest w' B v (marksP t L.length) ∧ Below B w w' := by
  have HN0 := hide h
  obtain ⟨A, cap, hv⟩ : ∃ A cap, v = .slice A L.length cap := by
    obtain ⟨bs, -, -, a3, -, -⟩ := h
    obtain ⟨A, cap, hv, -⟩ := own_open a3
    exact ⟨A, cap, hv⟩
  subst hv
  clear h
  go_enter Try.func21, Try.ntmps21
  go_wp2_with fail
  go_loopw [1, 5] (fun s i wr => ∃ q : Nat, q ≤ L.length ∧ s = .int .i64 (t + 2 * q) ∧ i = .int .i64 q ∧ Hid (Nest wr B (.slice A L.length cap) (marksP t q ++ L.drop q)) ∧ Hid (Below B w wr)) (fun _ i _ => L.length - (intOf i).toNat)
  case atStart => exact ⟨0, by omega, by simp, rfl, hide (by simpa [marksP] using HN0.out), hide (Below.refl _ _)⟩
  case round =>
    obtain ⟨q, hq, rfl, rfl, HN, HB⟩ := hrel
    by_cases hlt : q < L.length
    · obtain ⟨bs, ⟨e1, e2, e3, e4, e5⟩, -, -⟩ := HN.out.lt
      have hll : (marksP t q ++ L.drop q).length = L.length := by rw [List.length_append, marksP_length, List.length_drop]; omega
      obtain ⟨⟨x, y⟩, hp⟩ : ∃ p, (marksP t q ++ L.drop q)[q]? = some p := ⟨_, List.getElem?_eq_getElem (by rw [hll]; exact hlt)⟩
      obtain ⟨b, hb⟩ : ∃ b, bs[q]? = some b := ⟨_, List.getElem?_eq_getElem (by rw [e1, hll]; exact hlt)⟩
      have HRW := hide (Nest.row (e4 b (List.mem_of_getElem? hb)).1 (e5 q b _ hb hp))
      obtain ⟨b9, off9, rfl, hbs9, c0⟩ := (own_rd e3).get1 (show (bs.map hdr)[q]? = some (hdr b) by rw [List.getElem?_map, hb]; rfl)
      have HE := hide (And.intro e1 (And.intro e2 (And.intro e3 (And.intro e4 (And.intro e5 hb)))))
      have HLL := hide hll
      have HBB := hide (show B ≤ b from (e4 b (List.mem_of_getElem? hb)).1)
      unfold hdr at c0
      clear e1 e2 e3 e4 e5 hp hb hll
      go_wp2_with fail
      refine (markIntS_any B (hdr b) 2 _ (t + 2 * q) wr HRW.out (by omega) (by omega) (by omega)).mono ?_
      rintro e w1 ⟨rfl, ho, hg⟩
      have HN1 := hide (Nest.set HE.out.1 HE.out.2.1 HE.out.2.2.1 HE.out.2.2.2.1 HE.out.2.2.2.2.1 HE.out.2.2.2.2.2 (x := t + 2 * (q : Int)) (y := t + 2 * (q : Int) + 1) (by simpa [marks, List.range_succ] using ho) hg)
      have HB1 := hide (HB.out.grown hg (Nat.le_trans hBw HB.out.size) (fun k hk => by simp [hdr, Value.ownBlock] at hk; have := HBB.out; omega))
      clear ho hg
      go_wp2
      go_roundw
      case rel => exact ⟨q + 1, by omega, by go_num <;> omega, by go_num, hide (by rw [← marksP_set hlt]; exact HN1.out), HB1⟩
      case measure => simp [intOf]; omega
    · have hqn : q = L.length := by omega
      subst hqn
      go_wp2
      go_ret
      refine ⟨rfl, ?_, HB.out⟩
      have := HN.out
      rwa [List.drop_length, List.append_nil] at this

set_option maxHeartbeats 4000000 in
theorem heldIntSS_any (B : Nat) (v : Value) (n : Nat) (t : Int) (w : World) (h : Nest w B v (marksP t n)) (hm : n ≤ 1000) (h0 : 0 ≤ t) (h1 : t ≤ 1000) :
    Calls Try.prog 22 #[v, .int .i64 t] w fun e w' => e = .returned (.int .i64 (t + 2 * n)) ∧ w = w' := by
  obtain ⟨bs, ⟨e1, -, e3, -, e5⟩, -, -⟩ := h.lt
  rw [marksP_length] at e1 e3
  obtain ⟨A, cap, rfl, ra, -⟩ := own_open e3
  have RA := hide ra
  have HE := hide (And.intro e1 e5)
  clear e1 e3 e5 ra h
  go_enter Try.func22, Try.ntmps22
  go_wp2_with fail
  go_loop [1, 5] (fun s i => ∃ q : Nat, q ≤ n ∧ s = .int .i64 (t + 2 * q) ∧ i = .int .i64 q) (fun _ i => n - (intOf i).toNat)
  case atStart => exact ⟨0, by omega, by simp, rfl⟩
  case round =>
    obtain ⟨q, hq, rfl, rfl⟩ := hrel
    by_cases hlt : q < n
    · obtain ⟨b, hb⟩ : ∃ b, bs[q]? = some b := ⟨_, List.getElem?_eq_getElem (by rw [HE.out.1]; exact hlt)⟩
      have hp : (marksP t n)[q]? = some (t + 2 * (q : Int), t + 2 * (q : Int) + 1) := by simp [marksP, hlt]
      have HR := hide (heap_rd (HE.out.2 q b _ hb hp))
      obtain ⟨b9, off9, rfl, hbs9, c0⟩ := (RA.out).get1 (show (bs.map hdr)[q]? = some (hdr b) by rw [List.getElem?_map, hb]; rfl)
      have QH := hide (heldIntS_any (some ⟨b, 0, none⟩) 2 2 (t + 2 * q) w (by simpa [marks, List.range_succ] using HR.out) (by omega) (by omega) (by omega))
      unfold hdr at c0
      clear hb hp
      go_wp2_with fail
      refine QH.out.mono ?_
      rintro e w' ⟨rfl, rfl⟩
      go_wp2
      go_round
      case rel => exact ⟨q + 1, by omega, by go_num <;> omega, by go_num⟩
      case measure => simp [intOf]; omega
    · have hqn : q = n := by omega
      subst hqn
      go_wp2
      go_ret
      exact ⟨rfl, rfl⟩
end Go.Proofs.Ytobdebagijmkjaa
