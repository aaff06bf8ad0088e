/- Draws: the reference's little machine that derives choices from bytes: what its steps return, and what they leave. -/
import Derived.Test.YtbhnaakknfienaaGreatDoorSmall
import Derived.Test.YtbhnaakknfienaaGreatDoorOwn
import Derived.Laws.Bits64b
namespace Go.Proofs.YtbhnaakknfienaaGreatDoor
open Go.RowKit
set_option linter.unusedVariables false

/-- A drawer: its block, and the code that it reads. -/
structure Drw where
  W0 : World
  g : Nat
  A : Option Addr
  n : Nat
  c : Nat
  code : List Int
/-- The code: bytes, in memory that was there. -/
def Drw.ok (d : Drw) : Prop := d.n = d.code.length ∧ d.n ≤ maxLen ∧ (∀ x ∈ d.code, 0 ≤ x ∧ x ≤ 255) ∧ Rd d.W0 d.A (d.code.map (Value.int .u8)) ∧ d.W0.heap.size ≤ d.g
/-- Behind at most N steps. -/
def Drw.st (d : Drw) (N : Nat) (w : World) : Prop := Below d.W0.heap.size d.W0 w ∧ ∃ (p : Nat) (s : Int), p ≤ N ∧ (0 ≤ s ∧ s ≤ 18446744073709551615) ∧ Row w d.g [.slice d.A d.n d.c, .int .i64 (p : Int), .int .u64 s]
section
variable {d : Drw} {N M : Nat} {w w' : World}
theorem Drw.st.more (h : d.st N w) (hNM : N ≤ M) : d.st M w := by
  obtain ⟨hb, p, s, hp, hs, hR⟩ := h
  exact ⟨hb, p, s, Nat.le_trans hp hNM, hs, hR⟩
theorem Drw.st.lt (h : d.st N w) : d.g < w.heap.size := by
  obtain ⟨hb, p, s, hp, hs, hR⟩ := h
  exact hR.1
theorem Drw.st.base (h : d.st N w) : d.W0.heap.size ≤ w.heap.size := h.1.size
theorem Drw.st.below (h : d.st N w) (hb : Below w.heap.size w w') : d.st N w' := by
  obtain ⟨hb0, p, s, hp, hs, hR⟩ := h
  exact ⟨below_step hb0 hb, p, s, hp, hs, hR.below hb⟩
theorem Drw.st.alloc (h : d.st N w) (o : Obj) : d.st N (w.alloc o) := h.below ((Below.refl _ _).alloc (Nat.le_refl _) o)
theorem Drw.st.drew (h : d.st N w) : d.st N w.drew := h.below (Below.refl _ _).drew
/-- A write to another block, of the call's own. -/
theorem Drw.st.grown {row : Option Nat} (h : d.st N w) (hg : w.grownBy w' row) (hr : ∀ k, row = some k → d.W0.heap.size ≤ k ∧ k ≠ d.g) : d.st N w' := by
  obtain ⟨hb0, p, s, hp, hs, hR⟩ := h
  exact ⟨hb0.grown hg hb0.size (fun k hk => (hr k hk).1), p, s, hp, hs, hR.grown hg (fun e => (hr _ e.symm).2 rfl)⟩
end

/-- A store into memory that is younger than w. -/
theorem grown_put {w w1 : World} {row : Option Nat} (h : w.grownBy w1 row) {p : Addr} (hp : w.heap.size ≤ p.block) (u : Value) : w.grownBy (w1.setCell p u) row :=
  ⟨h.os, h.tape, h.output, by have := h.size; simpa [World.setCell] using this, fun k hk hne => (Below.heap_setCell _ _ _ _ (fun e => by rw [e] at hk; omega)).trans (h.block k hk hne)⟩
theorem grown_new {w w1 : World} {row : Option Nat} (h : w.grownBy w1 row) (o : Obj) : w.grownBy (w1.alloc o) row := grown_trans h (grown_of_below ((Below.refl _ _).alloc (Nat.le_refl _) _) _)
theorem Drw.st.put {d : Drw} {N : Nat} {w : World} (h : d.st N w) {p : Addr} (h0 : d.W0.heap.size ≤ p.block) (h1 : p.block ≠ d.g) (u : Value) : d.st N (w.setCell p u) :=
  h.grown (grown_set (g := p.block) u rfl) (fun k hk => by injection hk with hk; subst hk; exact ⟨h0, h1⟩)

/-- What a draw of a number leaves: behind M steps, with a word on the number. -/
def DrwInt (d : Drw) (M : Nat) (w : World) (P : Int → Prop) (e : Ending) (w' : World) : Prop :=
  (∃ v : Int, e = .returned (.int .i64 v) ∧ P v) ∧ d.st M w' ∧ w.grownBy w' (some d.g)

theorem and255_bd (a : Int) (h0 : 0 ≤ a) (h1 : a ≤ 18446744073709551615) : 0 ≤ wrap64 (bits .and .u64 a 255) ∧ wrap64 (bits .and .u64 a 255) ≤ 255 := by
  obtain ⟨k, rfl⟩ := Int.eq_ofNat_of_zero_le h0
  have h := bits_and_u64_nat k 255 (by omega) (by omega)
  have h2 : (k &&& 255) ≤ 255 := Nat.and_le_right
  rw [show ((255 : Nat) : Int) = 255 from rfl] at h
  rw [h]
  unfold wrap64
  omega
/-- Two stores into the drawer's block. -/
theorem drw_step {d : Drw} {N p : Nat} {s : Int} {w : World} (hg : d.W0.heap.size ≤ d.g) (hB : Below d.W0.heap.size d.W0 w) (hp : p ≤ N) (hR : Row w d.g [.slice d.A d.n d.c, .int .i64 (p : Int), .int .u64 s]) (s' : Int) (hs : 0 ≤ s' ∧ s' ≤ 18446744073709551615) :
    d.st (N + 1) ((w.setCell ⟨d.g, 1, none⟩ (.int .i64 ((p : Int) + 1))).setCell ⟨d.g, 2, none⟩ (.int .u64 s')) ∧ w.grownBy ((w.setCell ⟨d.g, 1, none⟩ (.int .i64 ((p : Int) + 1))).setCell ⟨d.g, 2, none⟩ (.int .u64 s')) (some d.g) :=
  ⟨⟨(hB.setCell hg _).setCell hg _, p + 1, s', by omega, hs, (Row.set (Row.set hR (k := 1) (by simp) _) (k := 2) (by simp) _).cast (by simp)⟩, grown_trans (grown_set _ rfl) (grown_set _ rfl)⟩
theorem emod_le (x m : Int) (h : 0 ≤ x) (hm : 0 < m) : x % m ≤ x := by
  have h1 := Int.emod_add_mul_ediv x m
  have h2 := Int.mul_nonneg (show (0 : Int) ≤ m by omega) (Int.ediv_nonneg h (show (0 : Int) ≤ m by omega))
  omega
theorem u64_bd (x : Int) : 0 ≤ IntKind.u64.wrap x ∧ IntKind.u64.wrap x ≤ 18446744073709551615 := by
  rw [IntKind.wrap_u64]
  omega

set_option maxRecDepth 100000 in
set_option maxHeartbeats 4000000 in
theorem next_any (d : Drw) (N : Nat) (w : World) (hd : d.ok) (h : d.st N w) (hN : N ≤ 1099511627776) :
    Calls Tryz.prog 74 #[.pointer (some ⟨d.g, 0, none⟩)] w (DrwInt d (N + 1) w fun v => 0 ≤ v ∧ v ≤ 255) := by
  obtain ⟨h1, h2, h3, h4, h5⟩ := hd
  obtain ⟨hb, p, s, hp, hs, hR⟩ := h
  obtain ⟨W0, g, A, n, c, code⟩ := d
  dsimp only at h1 h2 h3 h4 h5 hb hR ⊢
  have H1 := hide h1
  have H3 := hide h3
  have HR := hide hR
  have HRD := hide (h4.below hb)
  have HB := hide hb
  have HS := hide hs
  unfold maxLen at h2
  have r0 := hR.2.1 0 _ rfl
  have r1 := hR.2.1 1 _ rfl
  have r2 := hR.2.1 2 _ rfl
  have f1 := hR.free 1
  have f2 := hR.free 2
  have gz := hR.1
  clear h1 h3 h4 hb hR hs
  by_cases hlt : p < n
  · obtain ⟨x, hx⟩ : ∃ x, code[p]? = some x := ⟨_, List.getElem?_eq_getElem (by rw [← H1.out]; exact hlt)⟩
    have hx1 := H3.out x (List.mem_of_getElem? hx)
    obtain ⟨b, off, rfl, hbs, c0⟩ := HRD.out.get1 (show (code.map (Value.int .u8))[p]? = some (.int .u8 x) by rw [List.getElem?_map, hx]; rfl)
    go_enter Tryz.func74, Tryz.ntmps74
    go_wp2_with fail
    go_region
    go_wp2_with fail
    go_region
    go_wp2_with fail
    go_region
    go_wp2
    go_ret
    have h := drw_step (d := ⟨W0, g, some ⟨b, off, none⟩, n, c, code⟩) h5 HB.out hp HR.out (IntKind.u64.wrap (IntKind.u64.wrap (IntKind.u64.wrap (s * 6364136223846793005) + x) + 1442695040888963407)) (u64_bd _)
    exact ⟨⟨x, rfl, hx1⟩, h.1.drew.drew.drew, grown_trans h.2 (grown_of_below (Below.refl _ _).drew.drew.drew _)⟩
  · go_enter Tryz.func74, Tryz.ntmps74
    go_wp2_with fail
    go_region
    go_wp2_with fail
    go_region
    go_wp2
    go_ret
    have h := drw_step (d := ⟨W0, g, A, n, c, code⟩) h5 HB.out hp HR.out (IntKind.u64.wrap (IntKind.u64.wrap (IntKind.u64.wrap (s * 6364136223846793005)) + 1442695040888963407)) (u64_bd _)
    exact ⟨⟨_, rfl, and255_bd _ (by have := (u64_bd (IntKind.u64.wrap (IntKind.u64.wrap (s * 6364136223846793005)) + 1442695040888963407)).1; omega) (by have := (u64_bd (IntKind.u64.wrap (IntKind.u64.wrap (s * 6364136223846793005)) + 1442695040888963407)).2; omega)⟩, h.1.drew.drew, grown_trans h.2 (grown_of_below (Below.refl _ _).drew.drew _)⟩

set_option maxRecDepth 100000 in
set_option maxHeartbeats 4000000 in
theorem pick_any (d : Drw) (N : Nat) (m : Int) (w : World) (hd : d.ok) (h : d.st N w) (hN : N ≤ 1000000000000) (hm : -9223372036854775808 ≤ m ∧ m ≤ 9223372036854775807) :
    Calls Tryz.prog 33 #[.pointer (some ⟨d.g, 0, none⟩), .int .i64 m] w (DrwInt d (N + 2) w fun v => 0 ≤ v ∧ (v = 0 ∨ v < m) ∧ v ≤ 65535) := by
  have Q := hide (fun W N h hN => next_any d N W hd h hN)
  have H := hide h
  clear h
  by_cases h1 : m ≤ 1
  · go_enter Tryz.func33, Tryz.ntmps33
    go_wp2
    go_ret
    exact ⟨⟨0, rfl, by omega⟩, H.out.more (by omega), grown_refl _ _⟩
  · by_cases h2 : 200 < m
    · go_enter Tryz.func33, Tryz.ntmps33
      go_wp2_with fail
      refine (Q.out w N H.out (by omega)).mono ?_
      rintro e w1 ⟨⟨x, rfl, hx0, hx1⟩, hs, hg⟩
      have HS := hide hs
      have HG := hide hg
      clear hs hg
      go_wp2_with fail
      refine (Q.out w1 (N + 1) HS.out (by omega)).mono ?_
      rintro e w2 ⟨⟨y, rfl, hy0, hy1⟩, hs, hg⟩
      have HS2 := hide hs
      have HG2 := hide (grown_trans HG.out hg)
      clear hs hg
      have hm0 : m ≠ 0 := by omega
      go_wp2
      go_ret
      have e1 := Int.emod_nonneg (x * 256 + y) hm0
      have e2 := Int.emod_lt_of_pos (x * 256 + y) (show 0 < m by omega)
      have e3 := emod_le (x * 256 + y) m (by omega) (by omega)
      exact ⟨⟨_, rfl, e1, .inr e2, by omega⟩, HS2.out, HG2.out⟩
    · go_enter Tryz.func33, Tryz.ntmps33
      go_wp2_with fail
      refine (Q.out w N H.out (by omega)).mono ?_
      rintro e w1 ⟨⟨x, rfl, hx0, hx1⟩, hs, hg⟩
      have HS := hide hs
      have HG := hide hg
      clear hs hg
      have hm0 : m ≠ 0 := by omega
      go_wp2
      go_ret
      have e1 := Int.emod_nonneg x hm0
      have e2 := Int.emod_lt_of_pos x (show 0 < m by omega)
      have e3 := emod_le x m hx0 (by omega)
      exact ⟨⟨_, rfl, e1, .inr e2, by omega⟩, HS.out.more (by omega), HG.out⟩

def DrwBool (d : Drw) (M : Nat) (w : World) (e : Ending) (w' : World) : Prop :=
  (∃ b : Bool, e = .returned (.bool b)) ∧ d.st M w' ∧ w.grownBy w' (some d.g)

set_option maxHeartbeats 4000000 in
theorem one_any (d : Drw) (N : Nat) (m : Int) (w : World) (hd : d.ok) (h : d.st N w) (hN : N ≤ 1000000000000) (hm : -9223372036854775808 ≤ m ∧ m ≤ 9223372036854775807) :
    Calls Tryz.prog 32 #[.pointer (some ⟨d.g, 0, none⟩), .int .i64 m] w (DrwBool d (N + 2) w) := by
  have Q := hide (pick_any d N m w hd h hN hm)
  clear h
  go_enter Tryz.func32, Tryz.ntmps32
  go_wp2_with fail
  refine Q.out.mono ?_
  rintro e w1 ⟨⟨x, rfl, hx0, hx1, hx2⟩, hs, hg⟩
  have HS := hide hs
  have HG := hide hg
  clear hs hg
  go_wp2
  go_ret
  exact ⟨⟨_, rfl⟩, HS.out, HG.out⟩

set_option maxHeartbeats 4000000 in
theorem among_any (d : Drw) (N : Nat) (A : Option Addr) (n c : Nat) (l : List Int) (w : World) (hd : d.ok) (h : d.st N w) (hN : N ≤ 1000000000000) (hn : n = l.length) (h0 : 0 < n) (hm : n ≤ 1000) (hr : Rd w A (l.map (Value.int .i64))) (hne : ∀ b o sp, A = some ⟨b, o, sp⟩ → b ≠ d.g) :
    Calls Tryz.prog 50 #[.pointer (some ⟨d.g, 0, none⟩), .slice A n c] w (DrwInt d (N + 2) w fun v => v ∈ l) := by
  have Q := hide (pick_any d N (n : Int) w hd h hN (by omega))
  have Hn := hide hn
  have Hr := hide hr
  have HNE := hide hne
  clear h hn hr hne
  go_enter Tryz.func50, Tryz.ntmps50
  go_wp2_with fail
  refine Q.out.mono ?_
  rintro e w1 ⟨⟨x, rfl, hx0, hx1, hx2⟩, hs, hg⟩
  have HS := hide hs
  have HG := hide hg
  obtain ⟨k, rfl⟩ := Int.eq_ofNat_of_zero_le hx0
  have hkn : k < n := by omega
  obtain ⟨v, hv⟩ : ∃ v, l[k]? = some v := ⟨_, List.getElem?_eq_getElem (by rw [← Hn.out]; exact hkn)⟩
  obtain ⟨b, off, rfl, hbs, c0⟩ := (Hr.out.grown hg (fun b off sp e1 e2 => by injection e2 with e2; exact HNE.out b off sp e1 e2)).get1 (show (l.map (Value.int .i64))[k]? = some (.int .i64 v) by rw [List.getElem?_map, hv]; rfl)
  have HM := hide (List.mem_of_getElem? hv)
  have hi0 : (0 : Int) ≤ (k : Int) := by omega
  have hi1 : (k : Int) < (n : Int) := by omega
  clear hs hg hv
  go_wp2
  go_ret
  exact ⟨⟨_, rfl, HM.out⟩, HS.out, HG.out⟩

def I64 (v : Int) : Prop := -9223372036854775808 ≤ v ∧ v ≤ 9223372036854775807
/-- 'among' of a list that is written out in the call. -/
theorem among_lit (d : Drw) (N : Nat) (l : List Int) (w : World) (b : Nat) (hb : w.heap.size = b) (hd : d.ok) (h : d.st N w) (hN : N ≤ 1000000000000) (h0 : 0 < l.length) (hm : l.length ≤ 1000) :
    Calls Tryz.prog 50 #[.pointer (some ⟨d.g, 0, none⟩), .slice (some ⟨b, 0, none⟩) l.length l.length] (w.alloc (.cells (l.map (Value.int .i64)).toArray 3)) (DrwInt d (N + 2) w fun v => v ∈ l) := by
  subst hb
  have hR := (Row.new w (l.map (Value.int .i64)).toArray 3).rd
  refine (among_any d N _ l.length l.length l _ hd (h.alloc _) hN rfl h0 hm (by simpa using hR) (fun b o sp e => by injection e with e; injection e with e; have := h.lt; omega)).mono ?_
  rintro e w' ⟨hv, hs, hg⟩
  exact ⟨hv, hs, grown_trans (grown_of_below ((Below.refl _ _).alloc (Nat.le_refl _) _) _) hg⟩

set_option maxHeartbeats 4000000 in
theorem of_any (d : Drw) (N : Nat) (A : Option Addr) (n c : Nat) (l : List ByteArray) (w : World) (hd : d.ok) (h : d.st N w) (hN : N ≤ 1000000000000) (hn : n = l.length) (h0 : 0 < n) (hm : n ≤ 1000) (hr : Rd w A (l.map Value.string)) (hne : ∀ b o sp, A = some ⟨b, o, sp⟩ → b ≠ d.g) :
    Calls Tryz.prog 66 #[.pointer (some ⟨d.g, 0, none⟩), .slice A n c] w fun e w' => (∃ v, e = .returned (.string v) ∧ v ∈ l) ∧ d.st (N + 2) w' ∧ w.grownBy w' (some d.g) := by
  have Q := hide (pick_any d N (n : Int) w hd h hN (by omega))
  have Hn := hide hn
  have Hr := hide hr
  have HNE := hide hne
  clear h hn hr hne
  go_enter Tryz.func66, Tryz.ntmps66
  go_wp2_with fail
  refine Q.out.mono ?_
  rintro e w1 ⟨⟨x, rfl, hx0, hx1, hx2⟩, hs, hg⟩
  have HS := hide hs
  have HG := hide hg
  obtain ⟨k, rfl⟩ := Int.eq_ofNat_of_zero_le hx0
  have hkn : k < n := by omega
  obtain ⟨v, hv⟩ : ∃ v, l[k]? = some v := ⟨_, List.getElem?_eq_getElem (by rw [← Hn.out]; exact hkn)⟩
  obtain ⟨b, off, rfl, hbs, c0⟩ := (Hr.out.grown hg (fun b off sp e1 e2 => by injection e2 with e2; exact HNE.out b off sp e1 e2)).get1 (show (l.map Value.string)[k]? = some (.string v) by rw [List.getElem?_map, hv]; rfl)
  have HM := hide (List.mem_of_getElem? hv)
  have hi0 : (0 : Int) ≤ (k : Int) := by omega
  have hi1 : (k : Int) < (n : Int) := by omega
  clear hs hg hv
  go_wp2
  go_ret
  exact ⟨⟨_, rfl, HM.out⟩, HS.out, HG.out⟩
end Go.Proofs.YtbhnaakknfienaaGreatDoor
