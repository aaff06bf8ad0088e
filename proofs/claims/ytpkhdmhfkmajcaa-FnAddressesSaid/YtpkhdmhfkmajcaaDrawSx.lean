/- Draws of stretches: a list of them. -/
import Derived.Test.YtpkhdmhfkmajcaaDrawSt
import Derived.Test.YtpkhdmhfkmajcaaAdN
import Derived.Deep.LoopGhost
namespace Go.Proofs.Ytpkhdmhfkmajcaa
open Go.RowKit
set_option linter.unusedVariables false

theorem strs_road {l : List StrT} (h : strsB l = true) : l.length ≤ 30 ∧ ∀ x ∈ l, x.1.size ≤ 20 := by
  refine ⟨?_, fun x hx => ?_⟩
  · rw [strsB, Bool.and_eq_true, decide_eq_true_eq] at h
    exact h.2
  · have := strsB_elem h hx
    simp only [strP, strB, roadB, Bool.and_eq_true, inB_iff] at this
    omega
theorem asO_road (l : List StrT) (s : StrT) : ((asO l s).getD []).length ≤ 30 ∧ ∀ x ∈ (asO l s).getD [], x.1.size ≤ 20 := by
  unfold asO
  split
  · split
    · rename_i h; exact strs_road h
    · exact ⟨by simp, by simp⟩
  · exact ⟨by simp, by simp⟩
/-- What the draw of a list of stretches leaves. -/
def DrwStrs (d : Drw) (M : Nat) (w : World) (e : Ending) (w' : World) : Prop :=
  (∃ (A : Option Addr) (c : Nat) (l : List StrT), e = .returned (.slice A l.length c) ∧ l.length ≤ 32 ∧ (∀ x ∈ l, x.1.size ≤ 20) ∧ w'.ownsRow w.heap.size 25 5 (.slice A l.length c) l.length (l.flatMap scells)) ∧ d.st M w' ∧ w.grownBy w' (some d.g)
/-- What a function that asks for stretches wants of them. -/
theorem own_strs {w : World} {B c : Nat} {A : Option Addr} {l : List StrT} (h : w.ownsRow B 25 5 (.slice A l.length c) l.length (l.flatMap scells)) :
    l.length ≤ c ∧ c ≤ maxLen ∧ Rd w A (l.flatMap scells) ∧ ((A = none ∧ l.length = 0 ∧ c = 0) ∨ ∃ b off, A = some ⟨b, off, none⟩) := by
  obtain ⟨A', cap, hv, hr, hn, hc, h0, h1⟩ := own_open h
  simp only [Value.slice.injEq, true_and] at hv
  obtain ⟨rfl, rfl⟩ := hv
  refine ⟨hn, hc, hr, ?_⟩
  cases A with
  | none => obtain ⟨a, b, -⟩ := h0 rfl; exact .inl ⟨rfl, a, b⟩
  | some ad =>
    obtain ⟨b, off, sp⟩ := ad
    obtain ⟨rfl, rfl, -⟩ := h1 b off sp rfl
    exact .inr ⟨b, 0, rfl⟩
/-- While a list of stretches is made. -/
def SxAt (d : Drw) (w : World) (A : Option Addr) (c : Nat) (l : List StrT) (N : Nat) (wr : World) : Prop :=
  (l.length ≤ 32 ∧ ∀ x ∈ l, x.1.size ≤ 20) ∧ wr.ownsRow w.heap.size 25 5 (.slice A l.length c) l.length (l.flatMap scells) ∧ d.st N wr ∧ w.grownBy wr (some d.g)

theorem SxAt.draw {d : Drw} {w wr w' : World} {A : Option Addr} {c N M : Nat} {l : List StrT} (h : SxAt d w A c l N wr) (h0 : d.g < w.heap.size) (hs : d.st M w') (hg : wr.grownBy w' (some d.g)) : SxAt d w A c l M w' :=
  ⟨h.1, own_far h.2.1 hg h0, hs, grown_trans h.2.2.2 hg⟩
theorem SxAt.more {d : Drw} {w wr : World} {A : Option Addr} {c N M : Nat} {l : List StrT} (h : SxAt d w A c l N wr) (hM : N ≤ M) : SxAt d w A c l M wr := ⟨h.1, h.2.1, h.2.2.1.more hM, h.2.2.2⟩
theorem sx_set {l : List StrT} {k : Nat} (hk : k < l.length) (s0 : ByteArray) (s1 s2 s3 s4 : Int) :
    (((((l.flatMap scells).set (k * 5) (.string s0)).set (k * 5 + 1) (.int .i64 s1)).set (k * 5 + 2) (.int .i64 s2)).set (k * 5 + 3) (.int .i64 s3)).set (k * 5 + 4) (.int .i64 s4) = (l.set k (s0, s1, s2, s3, s4)).flatMap scells := by
  obtain ⟨⟨x0, x1, x2, x3, x4⟩, hx⟩ : ∃ x, l[k]? = some x := ⟨_, List.getElem?_eq_getElem hk⟩
  have g : ∀ b : StrT, (l.set k b)[k]? = some b := fun b => by simp [hk]
  rw [show k * 5 = k * 5 + 0 from rfl, flat_set scells 5 (fun _ => rfl) 0 (by omega) (.string s0) (s0, x1, x2, x3, x4) l k _ hx rfl,
    show k * 5 + 0 + 1 = k * 5 + 1 from rfl, flat_set scells 5 (fun _ => rfl) 1 (by omega) (.int .i64 s1) (s0, s1, x2, x3, x4) _ k _ (g (s0, x1, x2, x3, x4)) rfl, List.set_set,
    show k * 5 + 0 + 2 = k * 5 + 2 from rfl, flat_set scells 5 (fun _ => rfl) 2 (by omega) (.int .i64 s2) (s0, s1, s2, x3, x4) _ k _ (g (s0, s1, x2, x3, x4)) rfl, List.set_set,
    show k * 5 + 0 + 3 = k * 5 + 3 from rfl, flat_set scells 5 (fun _ => rfl) 3 (by omega) (.int .i64 s3) (s0, s1, s2, s3, x4) _ k _ (g (s0, s1, s2, x3, x4)) rfl, List.set_set,
    show k * 5 + 0 + 4 = k * 5 + 4 from rfl, flat_set scells 5 (fun _ => rfl) 4 (by omega) (.int .i64 s4) (s0, s1, s2, s3, s4) _ k _ (g (s0, s1, s2, s3, x4)) rfl, List.set_set]

set_option maxRecDepth 100000 in
set_option maxHeartbeats 16000000 in
theorem stretches_any (d : Drw) (N : Nat) (w : World) (hd : d.ok) (h : d.st N w) (hN : N ≤ 1000000000) :
    Calls Try.prog 25 #[.pointer (some ⟨d.g, 0, none⟩)] w (DrwStrs d (N + 1000) w) := by
  have H := hide h
  have HD := hide (show d.g < w.heap.size ∧ d.W0.heap.size ≤ w.heap.size from ⟨h.lt, h.base⟩)
  obtain ⟨i0, hi0, hz0, hz1, hz2⟩ := info_parts infoStretch
  have Hi := hide hi0
  have Hz := hide (And.intro hz0 (And.intro hz1 hz2))
  clear h hi0 hz0 hz1 hz2
  go_enter Try.func25, Try.ntmps25
  go_wp2_with fail
  refine (pick_any d N 9 w hd H.out (by omega) (by omega)).mono ?_
  rintro e w1 ⟨⟨x, rfl, hx0, hx1, hx2⟩, hs, hg⟩
  obtain ⟨q0, rfl⟩ := Int.eq_ofNat_of_zero_le hx0
  have hq9 : q0 ≤ 8 := by omega
  have HT : Hid (SxAt d w none 0 [] (N + 2) w1) := hide ⟨⟨by simp, by simp⟩, World.ownsRow_nil _ _ _ _, hs, hg⟩
  clear hs hg hx0 hx1 hx2 H
  go_wp2_with fail
  go_loopg [3, 4] 9 (fun g tl tn wr => ∃ (q : Nat) (A : Option Addr) (c : Nat) (l : List StrT), tl = .slice A l.length c ∧ tn = .int .i64 (q : Int) ∧ q ≤ 8 ∧ Hid (q ≤ g) ∧ Hid (SxAt d w A c l (N + 2 + 20 * (8 - q)) wr))
  case atStart => exact ⟨q0, none, 0, [], rfl, rfl, hq9, hide (by omega), hide ⟨HT.out.1, HT.out.2.1, HT.out.2.2.1.more (by omega), HT.out.2.2.2⟩⟩
  case round =>
    clear HT
    obtain ⟨q, A, c, l, rfl, rfl, hq, HGK, HT⟩ := hrel
    by_cases h0 : 0 < q
    · have h0' : (0 : Int) < (q : Int) := by omega
      have hL32 := HT.out.1.1
      go_wp2_with fail
      refine (stretch_any d (N + 2 + 20 * (8 - q)) wr hd HT.out.2.2.1 (by omega)).mono ?_
      rintro e w2 ⟨⟨s0, s1, s2, s3, s4, rfl, hz, -⟩, hs, hg⟩
      have HO := hide (own_far HT.out.2.1 hg HD.out.1)
      have HS := hide hs
      have HG := hide (grown_trans HT.out.2.2.2 hg)
      have HR := hide HT.out.1
      have HZ := hide hz
      obtain ⟨p1, p2, p3, p4⟩ := own_strs HO.out
      have HP := hide (And.intro p1 (And.intro p2 (And.intro p3 p4)))
      clear hs hg hz HT p1 p2 p3 p4
      go_wp2_with fail
      refine (specAddStretch_all A l.length c l s0 s1 s2 s3 s4 _ rfl HP.out.1 HP.out.2.1 (by omega) (fun x hx => Nat.le_trans (HR.out.2 x hx) (by unfold maxLen; omega)) HP.out.2.2.1 (Nat.le_trans HZ.out (by unfold maxLen; omega)) HP.out.2.2.2).mono ?_
      rintro e w3 ⟨⟨v, rfl, ho⟩, hb⟩
      have HAR := hide (asO_road l (s0, s1, s2, s3, s4))
      have HO2 := hide (own_le ho HG.out.size)
      replace HO := hide (own_below HO.out hb)
      replace HS := hide (HS.out.below hb)
      replace HG := hide (grown_trans HG.out (grown_of_below hb _))
      clear ho hb HP
      generalize asO l (s0, s1, s2, s3, s4) = o at *
      cases o with
      | none =>
        simp only [Option.isSome_none]
        go_wp2_with fail
        go_roundg (gk - 1)
        case rel => exact ⟨q - 1, A, c, l, rfl, by go_num, by omega, hide (by have := HGK.out; omega), hide ⟨HR.out, HO.out, HS.out.more (by omega), HG.out⟩⟩
        case measure => have := HGK.out; omega
      | some r =>
        simp only [Option.isSome_some]
        obtain ⟨A2, c2, rfl, -⟩ := own_open HO2.out
        have HR2 : Hid (r.length ≤ 32 ∧ ∀ x ∈ r, x.1.size ≤ 20) := hide ⟨Nat.le_trans HAR.out.1 (by omega), HAR.out.2⟩
        go_wp2_with fail
        go_roundg (gk - 1)
        case rel => exact ⟨q - 1, A2, c2, r, rfl, by go_num, by omega, hide (by have := HGK.out; omega), hide ⟨HR2.out, HO2.out, HS.out.more (by omega), HG.out⟩⟩
        case measure => have := HGK.out; omega
    · obtain rfl : q = 0 := by omega
      go_wp2_with fail
      refine (one_any d (N + 2 + 20 * (8 - 0)) 16 wr hd HT.out.2.2.1 (by omega) (by omega)).mono ?_
      rintro e w4 ⟨⟨b, rfl⟩, hs, hg⟩
      replace HT := hide (HT.out.draw HD.out.1 hs hg)
      clear hs hg
      go_upto_if 25 with fail
      go_cut [3] (fun s wx => ∃ (A : Option Addr) (c : Nat) (l : List StrT), s = .slice A l.length c ∧ Hid (SxAt d w A c l (N + 400) wx))
      case first =>
        cases b with
        | false =>
          go_wp2_with fail
          go_meet
          exact ⟨A, c, l, rfl, hide (HT.out.more (by omega))⟩
        | true =>
          go_wp2_with fail
          refine (pick_any d (N + 2 + 20 * (8 - 0) + 2) 2 w4 hd HT.out.2.2.1 (by omega) (by omega)).mono ?_
          rintro e w5 ⟨⟨x, rfl, hx0, hx1, hx2⟩, hs, hg⟩
          have HT2 : Hid (SxAt d w none 0 [] (N + 200) w5) := hide ⟨⟨by simp, by simp⟩, World.ownsRow_nil _ _ _ _, hs.more (by omega), grown_trans HT.out.2.2.2 hg⟩
          obtain ⟨m, hm⟩ := Int.eq_ofNat_of_zero_le (show 0 ≤ 30 + x by omega)
          have hm1 : m ≤ 31 := by omega
          clear hs hg HT
          go_upto_region 11 with fail
          clear hx0 hx1 hx2 hm
          go_loopg [3] m (fun g tl wr => ∃ (A : Option Addr) (c : Nat) (l : List StrT), tl = .slice A l.length c ∧ l.length ≤ m ∧ Hid (m ≤ g + l.length) ∧ Hid (SxAt d w A c l (N + 200 + 2 * l.length) wr))
          case atStart => exact ⟨none, 0, [], rfl, by simp, hide (by simp), HT2⟩
          case round =>
            clear HT2
            obtain ⟨A, c, l, rfl, hlm, HGK, HT⟩ := hrel
            obtain ⟨k, hk⟩ : ∃ k, k = l.length := ⟨_, rfl⟩
            rw [← hk] at HGK HT hlm ⊢
            have HK := hide hk
            clear hk
            by_cases hlt : k < m
            · go_wp2_with fail
              refine (pick_any d (N + 200 + 2 * k) 2 wr hd HT.out.2.2.1 (by omega) (by omega)).mono ?_
              rintro e w6 ⟨⟨y, rfl, hy0, hy1, hy2⟩, hs, hg⟩
              replace HT := hide (HT.out.draw HD.out.1 hs hg)
              have hy3 : y ≤ 1 := by omega
              clear hs hg hy1 hy2
              have hk31 : k ≤ 30 := by omega
              skip
              obtain ⟨nd, hnd, hnd1⟩ : ∃ nd : Nat, Int.tmod (k : Int) 14 = (nd : Int) ∧ nd ≤ 14 := ⟨k % 14, by rw [Int.tmod_eq_emod_of_nonneg (by omega)]; omega, by omega⟩
              have HBA := hide (Row.new w6 #[.string ⟨#[111, 97, 107]⟩, .int .i64 (3 * (k : Int) + 1), .int .i64 (3 * (k : Int) + 1 + y), .int .i64 (nd : Int), .int .i64 1] 25)
              have HOA := hide (World.ownsRow.alloc HT.out.2.1 (.cells #[.string ⟨#[111, 97, 107]⟩, .int .i64 (3 * (k : Int) + 1), .int .i64 (3 * (k : Int) + 1 + y), .int .i64 (nd : Int), .int .i64 1] 25))
              have HGA := hide (grown_new HT.out.2.2.2 (.cells #[.string ⟨#[111, 97, 107]⟩, .int .i64 (3 * (k : Int) + 1), .int .i64 (3 * (k : Int) + 1 + y), .int .i64 (nd : Int), .int .i64 1] 25))
              have HSA := hide (HT.out.2.2.1.alloc (.cells #[.string ⟨#[111, 97, 107]⟩, .int .i64 (3 * (k : Int) + 1), .int .i64 (3 * (k : Int) + 1 + y), .int .i64 (nd : Int), .int .i64 1] 25))
              have HNA := hide HT.out.1
              clear HT
              rw [← HK.out] at HOA
              have HSZ := hide (show w.heap.size ≤ (w6.alloc (.cells #[.string ⟨#[111, 97, 107]⟩, .int .i64 (3 * (k : Int) + 1), .int .i64 (3 * (k : Int) + 1 + y), .int .i64 (nd : Int), .int .i64 1] 25)).heap.size from HGA.out.size)
              go_wp2_with (at_builtin; refine wpList_append_any rfl (.tmp 35) (.tmp 48) 23 rfl w.heap.size 25 i0 _ 5 48 Try.underlying23 Hi.out Hz.out.1 Hz.out.2.1 Hz.out.2.2 rfl (by decide) (.slice A k c) k (l.flatMap scells) rfl HOA.out (some ⟨w6.heap.size, 0, none⟩) 1 1 (scells (⟨#[111, 97, 107]⟩, 3 * (k : Int) + 1, 3 * (k : Int) + 1 + y, (nd : Int), 1)) rfl rfl (fun e => by cases e) (fun ad e j u hu => by cases e; rw [Addr.add_lit, Nat.zero_add]; exact HBA.out.2.1 j u hu) (fun u hu => scells_one [(⟨#[111, 97, 107]⟩, 3 * (k : Int) + 1, 3 * (k : Int) + 1 + y, (nd : Int), 1)] u (by simpa using hu)) (by unfold maxLen; omega) (by omega) HSZ.out ?_)
              intro v7 w7 hown hgrow
              have HO7 : Hid (w7.ownsRow w.heap.size 25 5 v7 (k + 1) ((l ++ [((⟨#[111, 97, 107]⟩ : ByteArray), 3 * (k : Int) + 1, 3 * (k : Int) + 1 + y, (nd : Int), (1 : Int))]).flatMap scells)) := hide (by rw [List.flatMap_append]; simpa using hown)
              have HS7 := hide (HSA.out.grown hgrow (fun j hj => by have h1 := (HOA.out.lt _ hj).1; have h2 := HD.out; omega))
              have HG7 : Hid (w.grownBy w7 (some d.g)) := hide (grown_under HGA.out hgrow (fun j hj => (HOA.out.lt _ hj).1))
              clear hown hgrow HOA HBA HSZ HSA HGA
              obtain ⟨A7, c7, rfl, -⟩ := own_open HO7.out
              have HLL : Hid ((l ++ [((⟨#[111, 97, 107]⟩ : ByteArray), 3 * (k : Int) + 1, 3 * (k : Int) + 1 + y, (nd : Int), (1 : Int))]).length = k + 1) := hide (by rw [List.length_append, ← HK.out]; rfl)
              have HNN : Hid (∀ x ∈ l ++ [((⟨#[111, 97, 107]⟩ : ByteArray), 3 * (k : Int) + 1, 3 * (k : Int) + 1 + y, (nd : Int), (1 : Int))], x.1.size ≤ 20) := hide (fun x hx => by
                rcases List.mem_append.1 hx with hx | hx
                · exact HNA.out.2 x hx
                · rw [List.mem_singleton.1 hx]; exact (by decide : (3 : Nat) ≤ 20))
              generalize l ++ [((⟨#[111, 97, 107]⟩ : ByteArray), 3 * (k : Int) + 1, 3 * (k : Int) + 1 + y, (nd : Int), (1 : Int))] = l7 at *
              go_wp2_with fail
              go_roundg (gk - 1)
              case rel => exact ⟨A7, c7, l7, by rw [HLL.out], by rw [HLL.out]; omega, hide (by rw [HLL.out]; have := HGK.out; omega), hide ⟨⟨by rw [HLL.out]; omega, HNN.out⟩, by rw [HLL.out]; exact HO7.out, HS7.out.more (by rw [HLL.out]; omega), HG7.out⟩⟩
              case measure => have := HGK.out; omega
            · have hkm : ((k : Int) < (m : Int)) = False := by simp; omega
              go_wp2_with fail
              go_meet
              exact ⟨A, c, l, by rw [← HK.out], hide (HT.out.more (by omega))⟩
      clear HT
      obtain ⟨A, c, l, rfl, HT⟩ := hcut
      obtain ⟨k, hk⟩ : ∃ k, k = l.length := ⟨_, rfl⟩
      have HK := hide hk
      rw [← hk]
      clear hk
      cases hz : decide (0 < k) with
      | false =>
        have hz0 : k = 0 := by simpa using hz
        subst hz0
        go_wp2_with fail
        go_ret
        exact ⟨⟨A, c, l, by rw [← HK.out]; rfl, HT.out.1.1, HT.out.1.2, HT.out.2.1⟩, HT.out.2.2.1.more (by omega), HT.out.2.2.2⟩
      | true =>
        have hz0 : 0 < k := by simpa using hz
        go_wp2_with fail
        refine (one_any d (N + 400) 20 _ hd HT.out.2.2.1 (by omega) (by omega)).mono ?_
        rintro e w7 ⟨⟨b2, rfl⟩, hs, hg⟩
        replace HT := hide (HT.out.draw HD.out.1 hs hg)
        clear hs hg
        cases b2 with
        | false =>
          go_wp2_with fail
          go_ret
          exact ⟨⟨A, c, l, by rw [← HK.out]; rfl, HT.out.1.1, HT.out.1.2, HT.out.2.1⟩, HT.out.2.2.1.more (by omega), HT.out.2.2.2⟩
        | true =>
          go_wp2_with fail
          refine (pick_any d (N + 402) (k : Int) _ hd HT.out.2.2.1 (by omega) (by have := HT.out.1.1; have := HK.out; omega)).mono ?_
          rintro e w8 ⟨⟨x, rfl, hx0, hx1, hx2⟩, hs, hg⟩
          replace HT := hide (HT.out.draw HD.out.1 hs hg)
          obtain ⟨j, rfl⟩ := Int.eq_ofNat_of_zero_le hx0
          have hjk : j < k := by omega
          clear hs hg hx0 hx1 hx2
          go_wp2_with fail
          refine (stretch_any d (N + 404) _ hd HT.out.2.2.1 (by omega)).mono ?_
          rintro e w9 ⟨⟨s0, s1, s2, s3, s4, rfl, hsz, -⟩, hs, hg⟩
          replace HT := hide (HT.out.draw HD.out.1 hs hg)
          have HSZ := hide hsz
          clear hs hg hsz
          have HO := HT.out.2.1
          rw [← HK.out] at HO
          obtain ⟨g, cap, hv, hg1, hg2, -⟩ := own_some HO (by omega)
          simp only [Value.slice.injEq, true_and] at hv
          obtain ⟨rfl, rfl⟩ := hv
          have HON := hide HO
          have HGG := hide (And.intro hg1 hg2)
          have HLN : Hid ((l.flatMap scells).length = k * 5) := hide (by rw [flat_length scells 5 (fun _ => rfl), ← HK.out, Nat.mul_comm])
          obtain ⟨u0, hu0⟩ : ∃ u, (l.flatMap scells)[j * 5]? = some u := ⟨_, List.getElem?_eq_getElem (by have := HLN.out; omega)⟩
          obtain ⟨u1, hu1⟩ : ∃ u, (l.flatMap scells)[j * 5 + 1]? = some u := ⟨_, List.getElem?_eq_getElem (by have := HLN.out; omega)⟩
          obtain ⟨u2, hu2⟩ : ∃ u, (l.flatMap scells)[j * 5 + 2]? = some u := ⟨_, List.getElem?_eq_getElem (by have := HLN.out; omega)⟩
          obtain ⟨u3, hu3⟩ : ∃ u, (l.flatMap scells)[j * 5 + 3]? = some u := ⟨_, List.getElem?_eq_getElem (by have := HLN.out; omega)⟩
          obtain ⟨u4, hu4⟩ : ∃ u, (l.flatMap scells)[j * 5 + 4]? = some u := ⟨_, List.getElem?_eq_getElem (by have := HLN.out; omega)⟩
          have c0 := (HO.cellAt (j * 5) (by have := HLN.out; omega)).trans hu0
          have c1 := (HO.cellAt (j * 5 + 1) (by have := HLN.out; omega)).trans hu1
          have c2 := (HO.cellAt (j * 5 + 2) (by have := HLN.out; omega)).trans hu2
          have c3 := (HO.cellAt (j * 5 + 3) (by have := HLN.out; omega)).trans hu3
          have c4 := (HO.cellAt (j * 5 + 4) (by have := HLN.out; omega)).trans hu4
          have f0 := HO.frozenAt (j * 5)
          have f1 := HO.frozenAt (j * 5 + 1)
          have f2 := HO.frozenAt (j * 5 + 2)
          have f3 := HO.frozenAt (j * 5 + 3)
          have f4 := HO.frozenAt (j * 5 + 4)
          have HS := hide (World.ownsRow.stored ((World.ownsRow.stored ((World.ownsRow.stored ((World.ownsRow.stored ((World.ownsRow.stored HO (j * 5) (.string s0)).1) (j * 5 + 1) (.int .i64 s1)).1) (j * 5 + 2) (.int .i64 s2)).1) (j * 5 + 3) (.int .i64 s3)).1) (j * 5 + 4) (.int .i64 s4)).1
          have HSE := hide (sx_set (l := l) (k := j) (by rw [← HK.out]; exact hjk) s0 s1 s2 s3 s4)
          have hj0 : (0 : Int) ≤ (j : Int) := by omega
          have hj1 : (j : Int) < (k : Int) := by omega
          have hgd : g ≠ d.g := by have := HD.out; omega
          have HPU := hide (fun i u (W : World) (h : d.st (N + 424) W ∧ w.grownBy W (some d.g)) => And.intro (h.1.put (p := ⟨g, i, none⟩) (by have := HGG.out; have := HD.out; dsimp only; omega) hgd u) (grown_put h.2 (p := ⟨g, i, none⟩) (by have := HGG.out; dsimp only; omega) u))
          have HXX := hide (HPU.out (j * 5 + 4) (.int .i64 s4) _ (HPU.out (j * 5 + 3) (.int .i64 s3) _ (HPU.out (j * 5 + 2) (.int .i64 s2) _ (HPU.out (j * 5 + 1) (.int .i64 s1) _ (HPU.out (j * 5) (.string s0) _ ⟨HT.out.2.2.1, HT.out.2.2.2⟩)))))
          have HNM : Hid (∀ x ∈ l.set j (s0, s1, s2, s3, s4), x.1.size ≤ 20) := hide (fun x hx => by
            rcases List.mem_or_eq_of_mem_set hx with hx | hx
            · exact HT.out.1.2 x hx
            · rw [hx]; exact HSZ.out)
          have HKL : Hid (k ≤ 32) := hide (by have := HT.out.1.1; have := HK.out; omega)
          clear HO HT HON hu0 hu1 hu2 hu3 hu4 hg1 hg2 HPU
          go_wp2_with fail
          go_ret
          refine ⟨⟨some ⟨g, 0, none⟩, c, l.set j (s0, s1, s2, s3, s4), ?_, ?_, HNM.out, ?_⟩, HXX.out.1.more (by omega), HXX.out.2⟩
          · rw [List.length_set, ← HK.out]; rfl
          · rw [List.length_set, ← HK.out]; exact HKL.out
          · rw [List.length_set, ← HK.out, ← HSE.out]; exact HS.out
end Go.Proofs.Ytpkhdmhfkmajcaa
