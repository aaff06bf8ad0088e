/- Several texts in one. Draws: the reference's little machine that derives choices from bytes: what its steps return, and what they leave. Draws: a text with one or two edits. Draws that make one struct in a box: what is known while it is made. A list of integers written out in a call, made in a region that draws its order. -/
import Derived.Test.YtfcpgpmhjadanaaGreatDoorSmall
import Derived.Test.YtfcpgpmhjadanaaGreatDoorOwn
import Derived.Test.YtfcpgpmhjadanaaGreatDoorRow
import Derived.Test.YtfcpgpmhjadanaaGreatDoorRegX
import Derived.Laws.Bits64b
import Derived.BigRegion
import Derived.Deep.LoopGhost
import Derived.Laws.IdiomStrings
namespace Go.Proofs.YtfcpgpmhjadanaaGreatDoor
open Go.RowKit
set_option linter.unusedVariables false

/-- A drawer: its block, and the code that it reads. -/
structure Drw where
  W0 : World
  g : Nat
  A : Option Addr
  n : Nat
  c : Nat
  code : List Int
/-- The code: bytes, in memory that was there. -/
def Drw.ok (d : Drw) : Prop := d.n = d.code.length ∧ d.n ≤ maxLen ∧ (∀ x ∈ d.code, 0 ≤ x ∧ x ≤ 255) ∧ Rd d.W0 d.A (d.code.map (Value.int .u8)) ∧ d.W0.heap.size ≤ d.g
/-- Behind at most N steps. -/
def Drw.st (d : Drw) (N : Nat) (w : World) : Prop := Below d.W0.heap.size d.W0 w ∧ ∃ (p : Nat) (s : Int), p ≤ N ∧ (0 ≤ s ∧ s ≤ 18446744073709551615) ∧ Row w d.g [.slice d.A d.n d.c, .int .i64 (p : Int), .int .u64 s]
section
variable {d : Drw} {N M : Nat} {w w' : World}
theorem Drw.st.more (h : d.st N w) (hNM : N ≤ M) : d.st M w := by
  obtain ⟨hb, p, s, hp, hs, hR⟩ := h
  exact ⟨hb, p, s, Nat.le_trans hp hNM, hs, hR⟩
theorem Drw.st.lt (h : d.st N w) : d.g < w.heap.size := by
  obtain ⟨hb, p, s, hp, hs, hR⟩ := h
  exact hR.1
theorem Drw.st.base (h : d.st N w) : d.W0.heap.size ≤ w.heap.size := h.1.size
theorem Drw.st.below (h : d.st N w) (hb : Below w.heap.size w w') : d.st N w' := by
  obtain ⟨hb0, p, s, hp, hs, hR⟩ := h
  exact ⟨below_step hb0 hb, p, s, hp, hs, hR.below hb⟩
theorem Drw.st.alloc (h : d.st N w) (o : Obj) : d.st N (w.alloc o) := h.below ((Below.refl _ _).alloc (Nat.le_refl _) o)
theorem Drw.st.drew (h : d.st N w) : d.st N w.drew := h.below (Below.refl _ _).drew
/-- A write to another block, of the call's own. -/
theorem Drw.st.grown {row : Option Nat} (h : d.st N w) (hg : w.grownBy w' row) (hr : ∀ k, row = some k → d.W0.heap.size ≤ k ∧ k ≠ d.g) : d.st N w' := by
  obtain ⟨hb0, p, s, hp, hs, hR⟩ := h
  exact ⟨hb0.grown hg hb0.size (fun k hk => (hr k hk).1), p, s, hp, hs, hR.grown hg (fun e => (hr _ e.symm).2 rfl)⟩
end

/-- A store into memory that is younger than w. -/
theorem grown_put {w w1 : World} {row : Option Nat} (h : w.grownBy w1 row) {p : Addr} (hp : w.heap.size ≤ p.block) (u : Value) : w.grownBy (w1.setCell p u) row :=
  ⟨h.os, h.tape, h.output, by have := h.size; simpa [World.setCell] using this, fun k hk hne => (Below.heap_setCell _ _ _ _ (fun e => by rw [e] at hk; omega)).trans (h.block k hk hne)⟩
theorem grown_new {w w1 : World} {row : Option Nat} (h : w.grownBy w1 row) (o : Obj) : w.grownBy (w1.alloc o) row := grown_trans h (grown_of_below ((Below.refl _ _).alloc (Nat.le_refl _) _) _)
theorem Drw.st.put {d : Drw} {N : Nat} {w : World} (h : d.st N w) {p : Addr} (h0 : d.W0.heap.size ≤ p.block) (h1 : p.block ≠ d.g) (u : Value) : d.st N (w.setCell p u) :=
  h.grown (grown_set (g := p.block) u rfl) (fun k hk => by injection hk with hk; subst hk; exact ⟨h0, h1⟩)

/-- What a draw of a number leaves: behind M steps, with a word on the number. -/
def DrwInt (d : Drw) (M : Nat) (w : World) (P : Int → Prop) (e : Ending) (w' : World) : Prop :=
  (∃ v : Int, e = .returned (.int .i64 v) ∧ P v) ∧ d.st M w' ∧ w.grownBy w' (some d.g)

theorem and255_bd (a : Int) (h0 : 0 ≤ a) (h1 : a ≤ 18446744073709551615) : 0 ≤ wrap64 (bits .and .u64 a 255) ∧ wrap64 (bits .and .u64 a 255) ≤ 255 := by
  obtain ⟨k, rfl⟩ := Int.eq_ofNat_of_zero_le h0
  have h := bits_and_u64_nat k 255 (by omega) (by omega)
  have h2 : (k &&& 255) ≤ 255 := Nat.and_le_right
  rw [show ((255 : Nat) : Int) = 255 from rfl] at h
  rw [h]
  unfold wrap64
  omega
/-- Two stores into the drawer's block. -/
theorem drw_step {d : Drw} {N p : Nat} {s : Int} {w : World} (hg : d.W0.heap.size ≤ d.g) (hB : Below d.W0.heap.size d.W0 w) (hp : p ≤ N) (hR : Row w d.g [.slice d.A d.n d.c, .int .i64 (p : Int), .int .u64 s]) (s' : Int) (hs : 0 ≤ s' ∧ s' ≤ 18446744073709551615) :
    d.st (N + 1) ((w.setCell ⟨d.g, 1, none⟩ (.int .i64 ((p : Int) + 1))).setCell ⟨d.g, 2, none⟩ (.int .u64 s')) ∧ w.grownBy ((w.setCell ⟨d.g, 1, none⟩ (.int .i64 ((p : Int) + 1))).setCell ⟨d.g, 2, none⟩ (.int .u64 s')) (some d.g) :=
  ⟨⟨(hB.setCell hg _).setCell hg _, p + 1, s', by omega, hs, (Row.set (Row.set hR (k := 1) (by simp) _) (k := 2) (by simp) _).cast (by simp)⟩, grown_trans (grown_set _ rfl) (grown_set _ rfl)⟩
theorem emod_le (x m : Int) (h : 0 ≤ x) (hm : 0 < m) : x % m ≤ x := by
  have h1 := Int.emod_add_mul_ediv x m
  have h2 := Int.mul_nonneg (show (0 : Int) ≤ m by omega) (Int.ediv_nonneg h (show (0 : Int) ≤ m by omega))
  omega
theorem u64_bd (x : Int) : 0 ≤ IntKind.u64.wrap x ∧ IntKind.u64.wrap x ≤ 18446744073709551615 := by
  rw [IntKind.wrap_u64]
  omega

set_option maxRecDepth 100000 in
set_option maxHeartbeats 4000000 in
theorem next_any (d : Drw) (N : Nat) (w : World) (hd : d.ok) (h : d.st N w) (hN : N ≤ 1099511627776) :
    Calls Tryz.prog 68 #[.pointer (some ⟨d.g, 0, none⟩)] w (DrwInt d (N + 1) w fun v => 0 ≤ v ∧ v ≤ 255) := by
  obtain ⟨h1, h2, h3, h4, h5⟩ := hd
  obtain ⟨hb, p, s, hp, hs, hR⟩ := h
  obtain ⟨W0, g, A, n, c, code⟩ := d
  dsimp only at h1 h2 h3 h4 h5 hb hR ⊢
  have H1 := hide h1
  have H3 := hide h3
  have HR := hide hR
  have HRD := hide (h4.below hb)
  have HB := hide hb
  have HS := hide hs
  unfold maxLen at h2
  have r0 := hR.2.1 0 _ rfl
  have r1 := hR.2.1 1 _ rfl
  have r2 := hR.2.1 2 _ rfl
  have f1 := hR.free 1
  have f2 := hR.free 2
  have gz := hR.1
  clear h1 h3 h4 hb hR hs
  by_cases hlt : p < n
  · obtain ⟨x, hx⟩ : ∃ x, code[p]? = some x := ⟨_, List.getElem?_eq_getElem (by rw [← H1.out]; exact hlt)⟩
    have hx1 := H3.out x (List.mem_of_getElem? hx)
    obtain ⟨b, off, rfl, hbs, c0⟩ := HRD.out.get1 (show (code.map (Value.int .u8))[p]? = some (.int .u8 x) by rw [List.getElem?_map, hx]; rfl)
    go_enter Tryz.func68, Tryz.ntmps68
    go_wp2_with fail
    go_region
    go_wp2_with fail
    go_region
    go_wp2_with fail
    go_region
    go_wp2
    go_ret
    have h := drw_step (d := ⟨W0, g, some ⟨b, off, none⟩, n, c, code⟩) h5 HB.out hp HR.out (IntKind.u64.wrap (IntKind.u64.wrap (IntKind.u64.wrap (s * 6364136223846793005) + x) + 1442695040888963407)) (u64_bd _)
    exact ⟨⟨x, rfl, hx1⟩, h.1.drew.drew.drew, grown_trans h.2 (grown_of_below (Below.refl _ _).drew.drew.drew _)⟩
  · go_enter Tryz.func68, Tryz.ntmps68
    go_wp2_with fail
    go_region
    go_wp2_with fail
    go_region
    go_wp2
    go_ret
    have h := drw_step (d := ⟨W0, g, A, n, c, code⟩) h5 HB.out hp HR.out (IntKind.u64.wrap (IntKind.u64.wrap (IntKind.u64.wrap (s * 6364136223846793005)) + 1442695040888963407)) (u64_bd _)
    exact ⟨⟨_, rfl, and255_bd _ (by have := (u64_bd (IntKind.u64.wrap (IntKind.u64.wrap (s * 6364136223846793005)) + 1442695040888963407)).1; omega) (by have := (u64_bd (IntKind.u64.wrap (IntKind.u64.wrap (s * 6364136223846793005)) + 1442695040888963407)).2; omega)⟩, h.1.drew.drew, grown_trans h.2 (grown_of_below (Below.refl _ _).drew.drew _)⟩

set_option maxRecDepth 100000 in
set_option maxHeartbeats 4000000 in
theorem pick_any (d : Drw) (N : Nat) (m : Int) (w : World) (hd : d.ok) (h : d.st N w) (hN : N ≤ 1000000000000) (hm : -9223372036854775808 ≤ m ∧ m ≤ 9223372036854775807) :
    Calls Tryz.prog 44 #[.pointer (some ⟨d.g, 0, none⟩), .int .i64 m] w (DrwInt d (N + 2) w fun v => 0 ≤ v ∧ (v = 0 ∨ v < m) ∧ v ≤ 65535) := by
  have Q := hide (fun W N h hN => next_any d N W hd h hN)
  have H := hide h
  clear h
  by_cases h1 : m ≤ 1
  · go_enter Tryz.func44, Tryz.ntmps44
    go_wp2
    go_ret
    exact ⟨⟨0, rfl, by omega⟩, H.out.more (by omega), grown_refl _ _⟩
  · by_cases h2 : 200 < m
    · go_enter Tryz.func44, Tryz.ntmps44
      go_wp2_with fail
      refine (Q.out w N H.out (by omega)).mono ?_
      rintro e w1 ⟨⟨x, rfl, hx0, hx1⟩, hs, hg⟩
      have HS := hide hs
      have HG := hide hg
      clear hs hg
      go_wp2_with fail
      refine (Q.out w1 (N + 1) HS.out (by omega)).mono ?_
      rintro e w2 ⟨⟨y, rfl, hy0, hy1⟩, hs, hg⟩
      have HS2 := hide hs
      have HG2 := hide (grown_trans HG.out hg)
      clear hs hg
      have hm0 : m ≠ 0 := by omega
      go_wp2
      go_ret
      have e1 := Int.emod_nonneg (x * 256 + y) hm0
      have e2 := Int.emod_lt_of_pos (x * 256 + y) (show 0 < m by omega)
      have e3 := emod_le (x * 256 + y) m (by omega) (by omega)
      exact ⟨⟨_, rfl, e1, .inr e2, by omega⟩, HS2.out, HG2.out⟩
    · go_enter Tryz.func44, Tryz.ntmps44
      go_wp2_with fail
      refine (Q.out w N H.out (by omega)).mono ?_
      rintro e w1 ⟨⟨x, rfl, hx0, hx1⟩, hs, hg⟩
      have HS := hide hs
      have HG := hide hg
      clear hs hg
      have hm0 : m ≠ 0 := by omega
      go_wp2
      go_ret
      have e1 := Int.emod_nonneg x hm0
      have e2 := Int.emod_lt_of_pos x (show 0 < m by omega)
      have e3 := emod_le x m hx0 (by omega)
      exact ⟨⟨_, rfl, e1, .inr e2, by omega⟩, HS.out.more (by omega), HG.out⟩

def DrwBool (d : Drw) (M : Nat) (w : World) (e : Ending) (w' : World) : Prop :=
  (∃ b : Bool, e = .returned (.bool b)) ∧ d.st M w' ∧ w.grownBy w' (some d.g)

set_option maxHeartbeats 4000000 in
theorem one_any (d : Drw) (N : Nat) (m : Int) (w : World) (hd : d.ok) (h : d.st N w) (hN : N ≤ 1000000000000) (hm : -9223372036854775808 ≤ m ∧ m ≤ 9223372036854775807) :
    Calls Tryz.prog 58 #[.pointer (some ⟨d.g, 0, none⟩), .int .i64 m] w (DrwBool d (N + 2) w) := by
  have Q := hide (pick_any d N m w hd h hN hm)
  clear h
  go_enter Tryz.func58, Tryz.ntmps58
  go_wp2_with fail
  refine Q.out.mono ?_
  rintro e w1 ⟨⟨x, rfl, hx0, hx1, hx2⟩, hs, hg⟩
  have HS := hide hs
  have HG := hide hg
  clear hs hg
  go_wp2
  go_ret
  exact ⟨⟨_, rfl⟩, HS.out, HG.out⟩

set_option maxHeartbeats 4000000 in
theorem among_any (d : Drw) (N : Nat) (A : Option Addr) (n c : Nat) (l : List Int) (w : World) (hd : d.ok) (h : d.st N w) (hN : N ≤ 1000000000000) (hn : n = l.length) (h0 : 0 < n) (hm : n ≤ 1000) (hr : Rd w A (l.map (Value.int .i64))) (hne : ∀ b o sp, A = some ⟨b, o, sp⟩ → b ≠ d.g) :
    Calls Tryz.prog 50 #[.pointer (some ⟨d.g, 0, none⟩), .slice A n c] w (DrwInt d (N + 2) w fun v => v ∈ l) := by
  have Q := hide (pick_any d N (n : Int) w hd h hN (by omega))
  have Hn := hide hn
  have Hr := hide hr
  have HNE := hide hne
  clear h hn hr hne
  go_enter Tryz.func50, Tryz.ntmps50
  go_wp2_with fail
  refine Q.out.mono ?_
  rintro e w1 ⟨⟨x, rfl, hx0, hx1, hx2⟩, hs, hg⟩
  have HS := hide hs
  have HG := hide hg
  obtain ⟨k, rfl⟩ := Int.eq_ofNat_of_zero_le hx0
  have hkn : k < n := by omega
  obtain ⟨v, hv⟩ : ∃ v, l[k]? = some v := ⟨_, List.getElem?_eq_getElem (by rw [← Hn.out]; exact hkn)⟩
  obtain ⟨b, off, rfl, hbs, c0⟩ := (Hr.out.grown hg (fun b off sp e1 e2 => by injection e2 with e2; exact HNE.out b off sp e1 e2)).get1 (show (l.map (Value.int .i64))[k]? = some (.int .i64 v) by rw [List.getElem?_map, hv]; rfl)
  have HM := hide (List.mem_of_getElem? hv)
  have hi0 : (0 : Int) ≤ (k : Int) := by omega
  have hi1 : (k : Int) < (n : Int) := by omega
  clear hs hg hv
  go_wp2
  go_ret
  exact ⟨⟨_, rfl, HM.out⟩, HS.out, HG.out⟩

def I64 (v : Int) : Prop := -9223372036854775808 ≤ v ∧ v ≤ 9223372036854775807
/-- 'among' of a list that is written out in the call. -/
theorem among_lit (d : Drw) (N : Nat) (l : List Int) (w : World) (b : Nat) (hb : w.heap.size = b) (hd : d.ok) (h : d.st N w) (hN : N ≤ 1000000000000) (h0 : 0 < l.length) (hm : l.length ≤ 1000) :
    Calls Tryz.prog 50 #[.pointer (some ⟨d.g, 0, none⟩), .slice (some ⟨b, 0, none⟩) l.length l.length] (w.alloc (.cells (l.map (Value.int .i64)).toArray 3)) (DrwInt d (N + 2) w fun v => v ∈ l) := by
  subst hb
  have hR := (Row.new w (l.map (Value.int .i64)).toArray 3).rd
  refine (among_any d N _ l.length l.length l _ hd (h.alloc _) hN rfl h0 hm (by simpa using hR) (fun b o sp e => by injection e with e; injection e with e; have := h.lt; omega)).mono ?_
  rintro e w' ⟨hv, hs, hg⟩
  exact ⟨hv, hs, grown_trans (grown_of_below ((Below.refl _ _).alloc (Nat.le_refl _) _) _) hg⟩

set_option maxHeartbeats 4000000 in
theorem of_any (d : Drw) (N : Nat) (A : Option Addr) (n c : Nat) (l : List ByteArray) (w : World) (hd : d.ok) (h : d.st N w) (hN : N ≤ 1000000000000) (hn : n = l.length) (h0 : 0 < n) (hm : n ≤ 1000) (hr : Rd w A (l.map Value.string)) (hne : ∀ b o sp, A = some ⟨b, o, sp⟩ → b ≠ d.g) :
    Calls Tryz.prog 46 #[.pointer (some ⟨d.g, 0, none⟩), .slice A n c] w fun e w' => (∃ v, e = .returned (.string v) ∧ v ∈ l) ∧ d.st (N + 2) w' ∧ w.grownBy w' (some d.g) := by
  have Q := hide (pick_any d N (n : Int) w hd h hN (by omega))
  have Hn := hide hn
  have Hr := hide hr
  have HNE := hide hne
  clear h hn hr hne
  go_enter Tryz.func46, Tryz.ntmps46
  go_wp2_with fail
  refine Q.out.mono ?_
  rintro e w1 ⟨⟨x, rfl, hx0, hx1, hx2⟩, hs, hg⟩
  have HS := hide hs
  have HG := hide hg
  obtain ⟨k, rfl⟩ := Int.eq_ofNat_of_zero_le hx0
  have hkn : k < n := by omega
  obtain ⟨v, hv⟩ : ∃ v, l[k]? = some v := ⟨_, List.getElem?_eq_getElem (by rw [← Hn.out]; exact hkn)⟩
  obtain ⟨b, off, rfl, hbs, c0⟩ := (Hr.out.grown hg (fun b off sp e1 e2 => by injection e2 with e2; exact HNE.out b off sp e1 e2)).get1 (show (l.map Value.string)[k]? = some (.string v) by rw [List.getElem?_map, hv]; rfl)
  have HM := hide (List.mem_of_getElem? hv)
  have hi0 : (0 : Int) ≤ (k : Int) := by omega
  have hi1 : (k : Int) < (n : Int) := by omega
  clear hs hg hv
  go_wp2
  go_ret
  exact ⟨⟨_, rfl, HM.out⟩, HS.out, HG.out⟩
end Go.Proofs.YtfcpgpmhjadanaaGreatDoor
namespace Go.Proofs.YtfcpgpmhjadanaaGreatDoor
open Go.RowKit
set_option linter.unusedVariables false
set_option linter.unusedSimpArgs false

set_option maxRecDepth 100000 in
set_option maxHeartbeats 8000000 in
theorem spoilt_any (d : Drw) (N : Nat) (t wth : ByteArray) (w : World) (hd : d.ok) (h : d.st N w) (hN : N ≤ 100000000000) (ht : t.size ≤ 100000) (h0 : 1 ≤ wth.size) (h1 : wth.size ≤ 1000) :
    Calls Tryz.prog 45 #[.pointer (some ⟨d.g, 0, none⟩), .string t, .string wth] w fun e w' => (∃ v, e = .returned (.string v) ∧ v.size ≤ t.size + 2) ∧ d.st (N + 20) w' ∧ w.grownBy w' (some d.g) := by
  have H := hide h
  clear h
  go_enter Tryz.func45, Tryz.ntmps45
  go_wp2_with fail
  refine (pick_any d N 2 w hd H.out (by omega) (by omega)).mono ?_
  rintro e w1 ⟨⟨x, rfl, hx0, hx1, hx2⟩, hs, hg⟩
  have HS1 := hide hs
  have HG1 := hide hg
  clear hs hg
  obtain ⟨n0, rfl⟩ := Int.eq_ofNat_of_zero_le hx0
  have hn0 : n0 ≤ 1 := by omega
  clear hx0 hx1 hx2
  have hn1 : (n0 : Int) ≤ 1 := by omega
  go_wp2_with fail
  clear hn1
  go_loopg [7, 1] 2 (fun g s7 s1 wr => ∃ (n : Nat) (v : ByteArray), s7 = .int .i64 (n : Int) ∧ s1 = .string v ∧ n ≤ 2 ∧ v.size + n ≤ t.size + 2 ∧ Hid (n ≤ g) ∧ Hid (d.st (N + 2 + 6 * (2 - n)) wr) ∧ Hid (w.grownBy wr (some d.g)))
  case atStart => exact ⟨1 + n0, t, by go_num, rfl, by omega, by omega, hide (by omega), hide (HS1.out.more (by omega)), HG1⟩
  case round =>
    obtain ⟨n, v, rfl, rfl, hn, hv, HGN, HS, HG⟩ := hrel
    by_cases hlt : 0 < n
    · have k1 : (0 : Int) < (n : Int) := by omega
      by_cases hz : 0 < v.size
      · have k2 : (0 : Int) < (v.size : Int) := by omega
        go_wp2_with fail
        refine (pick_any d (N + 2 + 6 * (2 - n)) v.size wr hd HS.out (by omega) (by omega)).mono ?_
        rintro e x1 ⟨⟨i, rfl, hi0, hi1, hi2⟩, hs, hg⟩
        obtain ⟨i, rfl⟩ := Int.eq_ofNat_of_zero_le hi0
        have hi : i < v.size := by omega
        have HS2 := hide hs
        have HG2 := hide (grown_trans HG.out hg)
        clear hs hg hi0 hi1 hi2
        go_wp2_with fail
        refine (pick_any d (N + 2 + 6 * (2 - n) + 2) wth.size x1 hd HS2.out (by omega) (by omega)).mono ?_
        rintro e x2 ⟨⟨j, rfl, hj0, hj1, hj2⟩, hs, hg⟩
        obtain ⟨j, rfl⟩ := Int.eq_ofNat_of_zero_le hj0
        have hj : j < wth.size := by omega
        have hji : (j : Int) < (wth.size : Int) := by omega
        have HS3 := hide hs
        have HG3 := hide (grown_trans HG2.out hg)
        clear hs hg hj0 hj1 hj2
        have hcv := run_convert_bytes_back (P := Tryz.prog) (x2.alloc (.cells #[.int .u8 (wth[j].toNat : Int)] 5)) 22 9 5 ⟨x2.heap.size, 0, none⟩ 1 [wth[j]] (by kernel_rfl) (by kernel_rfl) (by kernel_rfl) (fun q hq => by
          have hq0 : q = 0 := by simpa using hq
          subst hq0
          rw [Addr.add_lit]
          exact (Row.new x2 #[.int .u8 (wth[j].toNat : Int)] 5).2.1 0 _ rfl)
        simp only [List.length_singleton] at hcv
        have HS4 := hide (HS3.out.alloc (.cells #[.int .u8 (wth[j].toNat : Int)] 5))
        have HG4 := hide (grown_new HG3.out (.cells #[.int .u8 (wth[j].toNat : Int)] 5))
        go_wp2_with fail
        refine (pick_any d (N + 2 + 6 * (2 - n) + 4) 3 _ hd HS4.out (by omega) (by omega)).mono ?_
        rintro e x3 ⟨⟨q, rfl, hq0, hq1, hq2⟩, hs, hg⟩
        have HS5 := hide (hs.more (show N + 2 + 6 * (2 - n) + 4 + 2 ≤ N + 2 + 6 * (2 - (n - 1)) by omega))
        have HG5 := hide (grown_trans HG4.out hg)
        clear hs hg hcv HS4 HG4 HS3 HG3 HS2 HG2
        have hcz : (⟨#[wth[j]]⟩ : ByteArray).size = 1 := rfl
        generalize (⟨#[wth[j]]⟩ : ByteArray) = wj at *
        have p1 : ((i : Int) + 1).toNat = i + 1 := by omega
        have p2 : (0 : Int) ≤ (i : Int) + 1 := by omega
        have p3 : (i : Int) ≤ (v.size : Int) := by omega
        have p4 : (i : Int) + 1 ≤ (v.size : Int) := by omega
        have p5 : (v.extract 0 i).size = i := by rw [ByteArray.size_extract]; omega
        have p6 : (v.extract i v.size).size = v.size - i := by rw [ByteArray.size_extract]; omega
        have p7 : (v.extract (i + 1) v.size).size = v.size - (i + 1) := by rw [ByteArray.size_extract]; omega
        obtain ⟨n', rfl⟩ : ∃ n', n = n' + 1 := ⟨n - 1, by omega⟩
        have HN := hide (show IntKind.i64.wrap (((n' + 1 : Nat) : Int) - 1) = (n' : Int) by rw [IntKind.wrap_i64]; omega)
        rw [show n' + 1 - 1 = n' by omega] at HS5
        have hsub : (((n' + 1 : Nat) : Int) - 1) = (n' : Int) := by omega
        have h3 : q = 0 ∨ q = 1 ∨ q = 2 := by omega
        rcases h3 with rfl | rfl | rfl
        · skip
          clear hq0 hq1 hq2
          go_wp2_with fail
          go_region
          go_wp2
          go_roundg (gk - 1)
          case rel => exact ⟨n', _, by rw [← hsub], rfl, by omega, by simp only [ByteArray.size_append, p5, p6, p7, hcz]; omega, hide (by have := HGN.out; omega), hide HS5.out.drew, hide (grown_trans HG5.out (grown_of_below (Below.refl _ _).drew _))⟩
          case measure => have := HGN.out; omega
        · skip
          clear hq0 hq1 hq2
          go_wp2_with fail
          go_region
          go_wp2
          go_roundg (gk - 1)
          case rel => exact ⟨n', _, by rw [← hsub], rfl, by omega, by simp only [ByteArray.size_append, p5, p6, p7, hcz]; omega, hide (by have := HGN.out; omega), hide HS5.out.drew, hide (grown_trans HG5.out (grown_of_below (Below.refl _ _).drew _))⟩
          case measure => have := HGN.out; omega
        · skip
          clear hq0 hq1 hq2
          go_wp2_with fail
          go_region
          go_wp2
          go_roundg (gk - 1)
          case rel => exact ⟨n', _, by rw [← hsub], rfl, by omega, by simp only [ByteArray.size_append, p5, p6, p7, hcz]; omega, hide (by have := HGN.out; omega), hide HS5.out.drew, hide (grown_trans HG5.out (grown_of_below (Below.refl _ _).drew _))⟩
          case measure => have := HGN.out; omega
      · have k2 : ¬ (0 : Int) < (v.size : Int) := by omega
        go_wp2
        go_ret
        exact ⟨⟨v, rfl, by omega⟩, HS.out.more (by omega), HG.out⟩
    · have k1 : ¬ (0 : Int) < (n : Int) := by omega
      go_wp2
      go_ret
      exact ⟨⟨v, rfl, by omega⟩, HS.out.more (by omega), HG.out⟩

theorem of_lit (d : Drw) (N : Nat) (l : List ByteArray) (w : World) (b : Nat) (hb : w.heap.size = b) (hd : d.ok) (h : d.st N w) (hN : N ≤ 1000000000000) (h0 : 0 < l.length) (hm : l.length ≤ 1000) :
    Calls Tryz.prog 46 #[.pointer (some ⟨d.g, 0, none⟩), .slice (some ⟨b, 0, none⟩) l.length l.length] (w.alloc (.cells (l.map Value.string).toArray 9)) fun e w' => (∃ v, e = .returned (.string v) ∧ v ∈ l) ∧ d.st (N + 2) w' ∧ w.grownBy w' (some d.g) := by
  subst hb
  have hR := (Row.new w (l.map Value.string).toArray 9).rd
  refine (of_any d N _ l.length l.length l _ hd (h.alloc _) hN rfl h0 hm (by simpa using hR) (fun b o sp e => by injection e with e; injection e with e; have := h.lt; omega)).mono ?_
  rintro e w' ⟨hv, hs, hg⟩
  exact ⟨hv, hs, grown_trans (grown_of_below ((Below.refl _ _).alloc (Nat.le_refl _) _) _) hg⟩
end Go.Proofs.YtfcpgpmhjadanaaGreatDoor
namespace Go.Proofs.YtfcpgpmhjadanaaGreatDoor
open Go.RowKit
set_option linter.unusedVariables false

theorem grown_under {w w1 w2 : World} {row r2 : Option Nat} (h : w.grownBy w1 row) (k : w1.grownBy w2 r2) (hr : ∀ j, r2 = some j → w.heap.size ≤ j) : w.grownBy w2 row :=
  ⟨k.os.trans h.os, k.tape.trans h.tape, k.output.trans h.output, Nat.le_trans h.size k.size, fun i hi hne => (k.block i (Nat.lt_of_lt_of_le hi h.size) (fun e => by have := hr i e.symm; omega)).trans (h.block i hi hne)⟩

/-- While a struct is made: the result's box rb, the struct's box tb, the drawer behind N steps. -/
structure BxAt (d : Drw) (w : World) (rb tb : Nat) (xs ys : List Value) (N : Nat) (wr : World) : Prop where
  gle : d.W0.heap.size ≤ d.g
  st : d.st N wr
  gr : w.grownBy wr (some d.g)
  res : Row wr rb xs
  box : Row wr tb ys
  ord : d.g < w.heap.size ∧ w.heap.size ≤ rb ∧ rb < tb
section
variable {d : Drw} {w wr w' : World} {rb tb N M : Nat} {xs ys : List Value}
theorem BxAt.draw (h : BxAt d w rb tb xs ys N wr) (hs : d.st M w') (hg : wr.grownBy w' (some d.g)) : BxAt d w rb tb xs ys M w' :=
  ⟨h.gle, hs, grown_trans h.gr hg, h.res.grown hg (fun e => by injection e with e; have := h.ord; omega), h.box.grown hg (fun e => by injection e with e; have := h.ord; omega), h.ord⟩
theorem BxAt.below (h : BxAt d w rb tb xs ys N wr) (hb : Below wr.heap.size wr w') : BxAt d w rb tb xs ys N w' :=
  ⟨h.gle, h.st.below hb, grown_trans h.gr (grown_of_below hb _), h.res.below hb, h.box.below hb, h.ord⟩
theorem BxAt.alloc (h : BxAt d w rb tb xs ys N wr) (o : Obj) : BxAt d w rb tb xs ys N (wr.alloc o) := h.below ((Below.refl _ _).alloc (Nat.le_refl _) o)
theorem BxAt.more (h : BxAt d w rb tb xs ys N wr) (hM : N ≤ M) : BxAt d w rb tb xs ys M wr := { h with st := h.st.more hM }
theorem BxAt.base (h : BxAt d w rb tb xs ys N wr) : d.W0.heap.size ≤ w.heap.size := Nat.le_of_lt (Nat.lt_of_le_of_lt h.gle h.ord.1)
theorem BxAt.set (h : BxAt d w rb tb xs ys N wr) {k : Nat} (hk : k < ys.length) (u : Value) : BxAt d w rb tb xs (ys.set k u) N (wr.setCell ⟨tb, k, none⟩ u) := by
  have h0 : w.heap.size ≤ tb := by have := h.ord; omega
  have h1 : tb ≠ d.g := by have := h.ord; omega
  exact ⟨h.gle, h.st.put (p := ⟨tb, k, none⟩) (Nat.le_trans h.base h0) h1 _, grown_put h.gr (p := ⟨tb, k, none⟩) h0 _, h.res.far (p := ⟨tb, k, none⟩) (by have := h.ord; simp; omega) _, h.box.set hk _, h.ord⟩
theorem BxAt.setR (h : BxAt d w rb tb xs ys N wr) {k : Nat} (hk : k < xs.length) (u : Value) : BxAt d w rb tb (xs.set k u) ys N (wr.setCell ⟨rb, k, none⟩ u) := by
  have h0 : w.heap.size ≤ rb := h.ord.2.1
  have h1 : rb ≠ d.g := by have := h.ord; omega
  exact ⟨h.gle, h.st.put (p := ⟨rb, k, none⟩) (Nat.le_trans h.base h0) h1 _, grown_put h.gr (p := ⟨rb, k, none⟩) h0 _, h.res.set hk _, h.box.far (p := ⟨rb, k, none⟩) (by have := h.ord; simp; omega) _, h.ord⟩
theorem BxAt.castB (h : BxAt d w rb tb xs ys N wr) {zs : List Value} (e : ys = zs) : BxAt d w rb tb xs zs N wr := e ▸ h
end
end Go.Proofs.YtfcpgpmhjadanaaGreatDoor
namespace Go.Proofs.YtfcpgpmhjadanaaGreatDoor
open Go.RowKit
set_option linter.unusedVariables false

theorem wp_of_run {P : Program} {Q : Exit → Act → World → Prop} {o : Oper} {a : Act} {w w' : World} {K : Act → World → Prop} {v : Value} (hrun : (execOp a.eval o).run P w = .ok (.value v) w') (h : K (a.put o.dst v) w') : Oper.wp P o a w K Q := by
  unfold Oper.wp
  rw [hrun]
  exact h
theorem run_ints3 (a b c : Int) (w : World) : (Instr.buildSlice 28 3 #[(0, .int .i64 a), (1, .int .i64 b), (2, .int .i64 c)]).run Tryz.prog w = .ok (.slice (some ⟨w.heap.size, 0, none⟩) 3 3) (w.alloc (.cells #[.int .i64 a, .int .i64 b, .int .i64 c] 3)) := by kernel_rfl
theorem wp_ints3 {Q : Exit → Act → World → Prop} {o : Oper} {ac : Act} {w : World} {K : Act → World → Prop} (a b c : Int) (x0 x1 x2 : Operand) (ho : o.op = .buildSlice 28 3 #[(0, x0), (1, x1), (2, x2)]) (e0 : ac.eval x0 = .int .i64 a) (e1 : ac.eval x1 = .int .i64 b) (e2 : ac.eval x2 = .int .i64 c) (h : K (ac.put o.dst (.slice (some ⟨w.heap.size, 0, none⟩) 3 3)) (w.alloc (.cells #[.int .i64 a, .int .i64 b, .int .i64 c] 3))) : Oper.wp Tryz.prog o ac w K Q := by
  refine wp_of_run ?_ h
  have := run_ints3 a b c w
  unfold execOp
  simp only [ho, List.map_toArray, List.map_cons, List.map_nil, e0, e1, e2, Sem.run_bind, this, Result.andThen_ok, Sem.run_pure]
theorem run_ints5 (a b c d e : Int) (w : World) : (Instr.buildSlice 28 5 #[(0, .int .i64 a), (1, .int .i64 b), (2, .int .i64 c), (3, .int .i64 d), (4, .int .i64 e)]).run Tryz.prog w = .ok (.slice (some ⟨w.heap.size, 0, none⟩) 5 5) (w.alloc (.cells #[.int .i64 a, .int .i64 b, .int .i64 c, .int .i64 d, .int .i64 e] 3)) := by kernel_rfl
theorem wp_ints5 {Q : Exit → Act → World → Prop} {o : Oper} {ac : Act} {w : World} {K : Act → World → Prop} (a b c d e : Int) (x0 x1 x2 x3 x4 : Operand) (ho : o.op = .buildSlice 28 5 #[(0, x0), (1, x1), (2, x2), (3, x3), (4, x4)]) (e0 : ac.eval x0 = .int .i64 a) (e1 : ac.eval x1 = .int .i64 b) (e2 : ac.eval x2 = .int .i64 c) (e3 : ac.eval x3 = .int .i64 d) (e4 : ac.eval x4 = .int .i64 e) (h : K (ac.put o.dst (.slice (some ⟨w.heap.size, 0, none⟩) 5 5)) (w.alloc (.cells #[.int .i64 a, .int .i64 b, .int .i64 c, .int .i64 d, .int .i64 e] 3))) : Oper.wp Tryz.prog o ac w K Q := by
  refine wp_of_run ?_ h
  have := run_ints5 a b c d e w
  unfold execOp
  simp only [ho, List.map_toArray, List.map_cons, List.map_nil, e0, e1, e2, e3, e4, Sem.run_bind, this, Result.andThen_ok, Sem.run_pure]
theorem run_ints6 (a b c d e f : Int) (w : World) : (Instr.buildSlice 28 6 #[(0, .int .i64 a), (1, .int .i64 b), (2, .int .i64 c), (3, .int .i64 d), (4, .int .i64 e), (5, .int .i64 f)]).run Tryz.prog w = .ok (.slice (some ⟨w.heap.size, 0, none⟩) 6 6) (w.alloc (.cells #[.int .i64 a, .int .i64 b, .int .i64 c, .int .i64 d, .int .i64 e, .int .i64 f] 3)) := by kernel_rfl
theorem wp_ints6 {Q : Exit → Act → World → Prop} {o : Oper} {ac : Act} {w : World} {K : Act → World → Prop} (a b c d e f : Int) (x0 x1 x2 x3 x4 x5 : Operand) (ho : o.op = .buildSlice 28 6 #[(0, x0), (1, x1), (2, x2), (3, x3), (4, x4), (5, x5)]) (e0 : ac.eval x0 = .int .i64 a) (e1 : ac.eval x1 = .int .i64 b) (e2 : ac.eval x2 = .int .i64 c) (e3 : ac.eval x3 = .int .i64 d) (e4 : ac.eval x4 = .int .i64 e) (e5 : ac.eval x5 = .int .i64 f) (h : K (ac.put o.dst (.slice (some ⟨w.heap.size, 0, none⟩) 6 6)) (w.alloc (.cells #[.int .i64 a, .int .i64 b, .int .i64 c, .int .i64 d, .int .i64 e, .int .i64 f] 3))) : Oper.wp Tryz.prog o ac w K Q := by
  refine wp_of_run ?_ h
  have := run_ints6 a b c d e f w
  unfold execOp
  simp only [ho, List.map_toArray, List.map_cons, List.map_nil, e0, e1, e2, e3, e4, e5, Sem.run_bind, this, Result.andThen_ok, Sem.run_pure]
end Go.Proofs.YtfcpgpmhjadanaaGreatDoor
