/- What a worn key may open, as the program tells it. No conditions. -/
import Derived.Test.YtbckginfipeibaaMMay
namespace Go.Proofs.Ytbckginfipeibaa
open Go.RowKit
set_option linter.unusedVariables false
set_option linter.unusedSimpArgs false

theorem mayTo_false {wear tol : Int} {l : List (List Int)} {key : List Int} {k : Nat} (h : mayTo wear tol l key (k + 1) = false) : ∀ {n}, k < n → mayTo wear tol l key n = false
  | 0, hk => by omega
  | n + 1, hk => by
    by_cases e : k = n
    · subst e; exact h
    · unfold mayTo; rw [mayTo_false h (by omega), Bool.false_and]
set_option maxRecDepth 100000 in
set_option maxHeartbeats 1000000 in
theorem MayOpen_any {S S' : Nat → Prop} (m : Mk) (hm : m.ok = true) (u kv : Value) (l : List (List Int)) (key : List Int) (wear tol : Int) (W : World) (h : V2 S W u l) (hk : V1 S' W kv key) (hl : LockOk m l) (hs : ∀ i, Small (getl l i)) (hkey : isKeyB m key = true) (hw : inB wear 0 19 = true) (ht : inB tol 0 4 = true) :
    Calls Try.prog 77 #[.agg #[.int .i64 m.c, .int .i64 m.d, .int .i64 m.s, .int .i64 m.e, .int .i64 m.l], .agg #[u], kv, .int .i64 wear, .int .i64 tol] W fun e w' => e = .returned (.tuple #[.bool (mayTo wear tol l key key.length), .int .i64 0]) ∧ Below W.heap.size W w' := by
  obtain ⟨r, hr⟩ : ∃ r, mayTo wear tol l key key.length = r := ⟨_, rfl⟩
  rw [hr]
  have Hr := Lib.hid hr; clear hr
  obtain ⟨a, c, rfl, hmx⟩ := h.form
  obtain ⟨ka, kc, rfl, hkx⟩ := hk.form
  have hki := isKey_iff.1 hkey
  have hmk := Mk.ok_iff.1 hm
  have hlk : key.length ≤ l.length := by have := hl.len; omega
  have hrg : ∀ i, i < key.length → 0 ≤ geti key i ∧ geti key i ≤ 7 := fun i hi => by have := hki.2.1 _ (geti_mem hi); omega
  have hw9 := inB_iff.1 hw
  obtain ⟨WA, hWA, hBA, hzA, HZA, hcA, hhA⟩ := box_facts W #[.int .i64 m.c, .int .i64 m.d, .int .i64 m.s, .int .i64 m.e, .int .i64 m.l] 32
  obtain ⟨W1, hW1, hB1, hz1', HZ1, hc1, hh1⟩ := box_facts WA #[.slice a l.length c] 79
  obtain ⟨W2, hW2, hB2, hz2', HZ2, hc2, hh2⟩ := box_facts W1 #[.slice a l.length c] 79
  obtain ⟨W3, hW3, hB3, hz3', HZ3, hc3, hh3⟩ := box_facts W2 #[.slice ka key.length kc] 29
  have hB01 : Below W.heap.size W W1 := hBA.trans (hB1.mono (by omega))
  have hB02 : Below W.heap.size W W2 := hB01.trans (hB2.mono (by omega))
  have hB03 : Below W.heap.size W W3 := hB02.trans (hB3.mono (by omega))
  rw [HZA.out] at hc1
  have hcl : W3.cell? ⟨W.heap.size + 1, 0, none⟩ = some (.slice a l.length c) := by
    have := HZA.out
    rw [(bcell hB3).1 _ _ (by omega), (bcell hB2).1 _ _ (by omega), hc1]; rfl
  have h3 := h.below hB03
  have hk3 := hk.below hB03
  have hV3 : V3 (fun _ => True) W3 (.slice (some ⟨W1.heap.size, 0, none⟩) 1 1) [l] := V3.one (heap_below hh2 hB3 (by omega)) h3.any trivial
  have hV2 : V2 (fun _ => True) W3 (.slice (some ⟨W2.heap.size, 0, none⟩) 1 1) [key] := V2.one hh3 hk3.any trivial
  have hwc := wearCode_any m hm _ _ [l] key wear tol W3 hV3 (fun k hk => by
    obtain rfl : k = 0 := by simp at hk; exact hk
    exact hl) hV2
  rw [if_pos (by rw [hw, ht, hkey]; rfl)] at hwc
  rw [HZ2.out, HZ1.out, HZA.out] at hwc
  have Hl := Lib.hid (And.intro hwc (And.intro hrg (And.intro hs HZ1.out))); clear hwc hrg hs hl hhA hh1 hh2 hh3 hc1 hc2 hc3 hcA hV3 hV2 hki hkey hw ht
  go_enter Try.func77, Try.ntmps77
  go_wp2_with fail
  rw [← hWA, ← hW1, ← hW2, ← hW3]
  have HW := Lib.hid (And.intro hWA (And.intro hW1 (And.intro hW2 hW3))); clear hWA hW1 hW2 hW3
  refine Hl.out.1.mono ?_
  rintro e' w2 ⟨rfl, hb2⟩
  have hz3 := hb2.size
  have hclw := cell_keep hcl (hb2.block _ (lt_of_cell hcl))
  go_wp2_with fail
  go_loopw [13, 14, 28] (fun _ _ i wr => ∃ k : Nat, k ≤ key.length ∧ i = .int .i64 (k : Int) ∧ mayTo wear tol l key k = true ∧ Below W3.heap.size W3 wr) (fun _ _ i _ => (key.length - (intOf i).toNat))
  case atStart => exact ⟨0, Nat.zero_le _, rfl, rfl, hb2⟩
  case round =>
    obtain ⟨k, hk, rfl, hmt, hB⟩ := hrel
    have hzr := hB.size
    by_cases hkk : k < key.length
    · obtain ⟨b1, off1, rfl, _, hck⟩ := (hk3.below hB).cell hkk
      obtain ⟨b2, off2, a2, c2, rfl, _, hc2, hr2⟩ := (h3.below hB).cell (k := k) (by omega)
      have hclr := cell_keep hcl (hB.block _ (lt_of_cell hcl))
      have hx := Hl.out.2.1 k hkk
      have hst : mayTo wear tol l key (k + 1) = (mayTo wear tol l key k && someTo tol (10 * geti key k) (getl l k) (wear.toNat + 1)) := rfl
      rw [hmt, Bool.true_and] at hst
      have hfp := freePlaces_any _ (getl l k) (geti key k) wear tol wr hr2 (Hl.out.2.2.1 k) hx hw9
      have hcs := cntFr_some tol (10 * geti key k) (getl l k) (wear.toNat + 1)
      obtain ⟨x, hxe⟩ : ∃ x, geti key k = x := ⟨_, rfl⟩
      rw [hxe] at hfp hck hst hcs
      obtain ⟨n, hn⟩ : ∃ n, cntFr tol (10 * x) (getl l k) (wear.toNat + 1) = n := ⟨_, rfl⟩
      rw [hn] at hfp hcs
      have hk0 : (0 : Int) ≤ (k : Int) := by omega
      have hkl : (k : Int) < (l.length : Int) := by omega
      have hkk2 : (k : Int) < (key.length : Int) := by omega
      by_cases hn0 : n = 0
      · subst hn0
        have hfin : mayTo wear tol l key key.length = false := mayTo_false (k := k) (by rw [hst, ← hcs]) hkk
        have Hst := Lib.hid (And.intro hfp (And.intro hfin (And.intro hst hcs))); clear hfp hfin hst hcs hn hxe hmt
        have hrf : r = false := by rw [← Hr.out]; exact Hst.out.2.1
        subst hrf
        go_wp2_with fail
        refine Hst.out.1.mono ?_
        rintro e' w5 ⟨rfl, hb5⟩
        clear hc2 hr2
        go_wp2_with fail
        go_ret2
        exact ⟨rfl, hB03.trans ((hB.trans (hb5.mono hzr)).mono (by omega))⟩
      · have hne : ((n : Int) == 0) = false := by simp [hn0]
        have hmt2 : mayTo wear tol l key (k + 1) = true := by
          rw [hst]
          cases hs : someTo tol (10 * x) (getl l k) (wear.toNat + 1)
          · exact absurd (hcs.2 hs) hn0
          · rfl
        have Hst := Lib.hid (And.intro hfp (And.intro hmt2 (And.intro hst hcs))); clear hfp hmt2 hst hcs hn hxe hmt
        go_wp2_with fail
        refine Hst.out.1.mono ?_
        rintro e' w5 ⟨rfl, hb5⟩
        clear hc2 hr2
        go_wp2_with fail
        go_roundw
        case rel => exact ⟨k + 1, by omega, by go_num, Hst.out.2.1, hB.trans (hb5.mono hzr)⟩
        case measure => simp [intOf]; omega
    · obtain rfl : k = key.length := by omega
      have hrt : r = true := by rw [← Hr.out]; exact hmt
      subst hrt
      clear hmt
      go_wp2_with fail
      go_ret2
      exact ⟨rfl, hB03.trans (hB.mono (by omega))⟩
end Go.Proofs.Ytbckginfipeibaa
