/- Whether open partial cuts stay open with one more key: a plain law. No program here. No conditions. -/
import Derived.Deep.RegionHeld3
import Derived.Test.YtikdbjaimcciiaaGreatMLocks
import Derived.Test.YtikdbjaimcciiaaGreatClone2
namespace Go.Proofs.YtikdbjaimcciiaaGreat
open Go.RowKit
set_option linter.unusedVariables false
set_option linter.unusedSimpArgs false

/-- Cuts open a lock to whose sets those of a key are added. -/
def opensWithB (l : List (List Int)) (key cuts : List Int) : Bool := upAll (fun i => decide (geti cuts i = geti key i) || hasI (getl l i) (geti cuts i)) cuts.length 0
theorem opensWithB_iff {l : List (List Int)} {key cuts : List Int} : opensWithB l key cuts = true ↔ ∀ i, i < cuts.length → geti cuts i = geti key i ∨ geti cuts i ∈ getl l i := by
  unfold opensWithB; rw [upAll_iff]
  simp only [Bool.or_eq_true, decide_eq_true_eq, hasI_iff]
/-- Door d is not opened falsely with the key of the next row. -/
def stayD (t cuts : List (List Int)) (locks : List (List (List Int))) (key : List Int) (d : Nat) : Bool :=
  !(decide (geti (getl t cuts.length) d = 0) && opensB (getll locks d) key) && upAll (fun k => !(decide (geti (getl t cuts.length) d = 1) && decide (geti (getl t k) d = 0) && opensWithB (getll locks d) key (getl cuts k))) cuts.length 0
def staysB (t cuts : List (List Int)) (locks : List (List (List Int))) (key : List Int) : Bool := upAll (stayD t cuts locks key) (getl t 0).length 0
theorem doorCuts_snoc {t cuts : List (List Int)} {d : Nat} {key : List Int} : ∀ {k : Nat}, k ≤ cuts.length → doorCuts t (cuts ++ [key]) d k = doorCuts t cuts d k
  | 0, _ => rfl
  | k + 1, h => by
    unfold doorCuts
    rw [doorCuts_snoc (by omega), getl_append1 (by omega)]
theorem doorCuts_more {t cuts : List (List Int)} {d : Nat} {key : List Int} : doorCuts t (cuts ++ [key]) d (cuts.length + 1) = if geti (getl t cuts.length) d = 1 then doorCuts t cuts d cuts.length ++ [key] else doorCuts t cuts d cuts.length := by
  rw [doorCuts, doorCuts_snoc (Nat.le_refl _), getl_last]
theorem mem_lock {n : Nat} {t cuts : List (List Int)} {d c : Nat} {x : Int} (hc : c < n) : x ∈ getl (lockR n t cuts d) c ↔ ∃ k ∈ doorCuts t cuts d cuts.length, geti k c = x := by
  rw [lockR, hullR_get hc, (diffI_sort _).2]
  unfold colOf
  rw [List.mem_map]
theorem stay_iff {n : Nat} {t cuts : List (List Int)} {key : List Int} (hlk : key.length = n) (hlc : ∀ k, k < cuts.length → (getl cuts k).length = n) (hbits : ∀ d, d < (getl t 0).length → geti (getl t cuts.length) d = 0 ∨ geti (getl t cuts.length) d = 1)
    (h0 : falseL n t cuts = []) : staysB t cuts (locksTo n t cuts (getl t 0).length) key = true ↔ falseL n t (cuts ++ [key]) = [] := by
  have hno : ∀ i d, i < cuts.length → d < (getl t 0).length → geti (getl t i) d = 0 → ¬ opensB (lockR n t cuts d) (getl cuts i) = true := fun i d hi hd ha ho => by
    have : [(i : Int), (d : Int)] ∈ falseL n t cuts := mem_falseRows.2 ⟨i, d, hi, hd, rfl, ha, by rw [locksTo_get hd]; exact ho⟩
    rw [h0] at this; cases this
  have hlen1 : (cuts ++ [key]).length = cuts.length + 1 := by simp
  -- the lock of a door with the key
  have hsame : ∀ d, geti (getl t cuts.length) d ≠ 1 → lockR n t (cuts ++ [key]) d = lockR n t cuts d := fun d hd => by unfold lockR; rw [hlen1, doorCuts_more, if_neg hd]
  have hmore : ∀ d c x, c < n → geti (getl t cuts.length) d = 1 → (x ∈ getl (lockR n t (cuts ++ [key]) d) c ↔ x = geti key c ∨ x ∈ getl (lockR n t cuts d) c) := fun d c x hc hd => by
    rw [mem_lock hc, mem_lock hc, hlen1, doorCuts_more, if_pos hd]
    constructor
    · rintro ⟨k, hk, rfl⟩
      rcases List.mem_append.1 hk with hk | hk
      · exact .inr ⟨k, hk, rfl⟩
      · exact .inl (by rw [List.mem_singleton.1 hk])
    · rintro (rfl | ⟨k, hk, rfl⟩)
      · exact ⟨key, List.mem_append.2 (.inr (List.mem_singleton.2 rfl)), rfl⟩
      · exact ⟨k, List.mem_append.2 (.inl hk), rfl⟩
  have hfalse : falseL n t (cuts ++ [key]) = [] ↔ ∀ i d, i < cuts.length + 1 → d < (getl t 0).length → geti (getl t i) d = 0 → ¬ opensB (lockR n t (cuts ++ [key]) d) (getl (cuts ++ [key]) i) = true := by
    constructor
    · intro h i d hi hd ha ho
      have : [(i : Int), (d : Int)] ∈ falseL n t (cuts ++ [key]) := mem_falseRows.2 ⟨i, d, by rw [hlen1]; exact hi, hd, rfl, ha, by rw [locksTo_get hd]; exact ho⟩
      rw [h] at this; cases this
    · intro h
      refine List.eq_nil_iff_forall_not_mem.2 fun x hx => ?_
      obtain ⟨i, d, hi, hd, rfl, ha, ho⟩ := mem_falseRows.1 hx
      rw [hlen1] at hi
      rw [locksTo_get hd] at ho
      exact h i d hi hd ha ho
  rw [hfalse]
  unfold staysB
  rw [upAll_iff]
  simp only [stayD, Bool.and_eq_true, Bool.not_eq_true', upAll_iff]
  constructor
  · intro h i d hi hd ha ho
    obtain ⟨h1, h2⟩ := h d hd
    rw [locksTo_get hd] at h1 h2
    by_cases hi2 : i < cuts.length
    · rw [getl_append1 hi2] at ho
      rcases hbits d hd with hb | hb
      · rw [hsame d (by omega)] at ho
        exact hno i d hi2 hd ha ho
      · have h3 := h2 i hi2
        rw [hb, ha] at h3
        simp only [decide_true, Bool.true_and] at h3
        rw [← Bool.not_eq_true, opensWithB_iff] at h3
        refine h3 fun c hc => ?_
        have hcn : c < n := by rw [← hlc i hi2]; exact hc
        exact (hmore d c _ hcn hb).1 (opensB_iff.1 ho c hc)
    · have e : i = cuts.length := by omega
      subst e
      rw [getl_last, hsame d (by omega)] at ho
      rw [ha, ho] at h1
      simp at h1
  · intro h d hd
    rw [locksTo_get hd]
    refine ⟨?_, fun k hk => ?_⟩
    · by_cases ha : geti (getl t cuts.length) d = 0
      · have h1 := h cuts.length d (by omega) hd ha
        rw [getl_last, hsame d (by omega)] at h1
        rw [ha]; simpa using h1
      · simp [ha]
    · by_cases hb : geti (getl t cuts.length) d = 1
      · by_cases ha : geti (getl t k) d = 0
        · have h1 := h k d (by omega) hd ha
          rw [getl_append1 hk] at h1
          rw [hb, ha]
          simp only [decide_true, Bool.true_and]
          rw [← Bool.not_eq_true, opensWithB_iff]
          intro h2
          refine h1 (opensB_iff.2 fun c hc => ?_)
          have hcn : c < n := by rw [← hlc k hk]; exact hc
          exact (hmore d c _ hcn hb).2 (h2 c hc)
        · simp [ha]
      · simp [hb]
end Go.Proofs.YtikdbjaimcciiaaGreat

namespace Go.Proofs.YtikdbjaimcciiaaGreat
open Go.RowKit
set_option linter.unusedVariables false
set_option linter.unusedSimpArgs false

set_option maxRecDepth 100000 in
theorem opensWith_any {S S' S2 : Nat → Prop} (u v k : Value) (l : List (List Int)) (key cuts : List Int) (W : World) (h : V2 S W u l) (hk : V1 S2 W k key) (hc : V1 S' W v cuts) (hl : cuts.length ≤ l.length) (hkl : cuts.length ≤ key.length) :
    Calls Tryz.prog 226 #[.agg #[u], k, v] W fun e' w' => e' = .returned (.bool (opensWithB l key cuts)) ∧ Below W.heap.size W w' := by
  obtain ⟨a, c, rfl, hmx⟩ := h.form
  obtain ⟨a', c', rfl, hmx'⟩ := hc.form
  obtain ⟨ka, kc, rfl, hkm⟩ := hk.form
  obtain ⟨r, hr⟩ : ∃ r, opensWithB l key cuts = r := ⟨_, rfl⟩
  rw [hr]
  have Hr := Lib.hid hr; clear hr
  obtain ⟨W1, hW1, hB01, hz01, HZ01, hc01, hh01⟩ := box_facts W #[.slice a l.length c] 155
  have hV1 := h.below hB01
  have hC1 := hc.below hB01
  have hK1 := hk.below hB01
  go_enter Tryz.func226, Tryz.ntmps226
  go_wp2_with fail
  rw [← hW1]
  have HW1 := Lib.hid hW1; clear hW1 hh01
  go_loop [7, 8, 11] (fun _ _ i => ∃ j : Nat, j ≤ cuts.length ∧ i = .int .i64 (j : Int) ∧ r = upAll (fun i => decide (geti cuts i = geti key i) || hasI (getl l i) (geti cuts i)) cuts.length j) (fun _ _ i => cuts.length - (intOf i).toNat)
  case atStart => exact ⟨0, Nat.zero_le _, rfl, Hr.out.symm⟩
  case round =>
    obtain ⟨j, hj, rfl, hrem⟩ := hrel
    have Hm := Lib.hid hrem; clear hrem
    by_cases hjj : j < cuts.length
    · obtain ⟨b1, off1, rfl, _, hc1⟩ := hC1.cell hjj
      have hjk : j < key.length := by omega
      obtain ⟨b3, off3, rfl, _, hc3⟩ := hK1.cell hjk
      obtain ⟨b2, off2, a2, c2, rfl, _, hc2, hr2⟩ := hV1.cell (k := j) (by omega)
      by_cases heq : geti cuts j = geti key j
      · have e1 : (geti cuts j != geti key j) = false := by simp [heq]
        have HE := Lib.hid heq; clear heq
        go_wp2_with fail
        go_round
        case rel => exact ⟨j + 1, by omega, by go_num, by rw [Hm.out, upAll_step hjj, decide_eq_true HE.out]; rfl⟩
        case measure => simp [intOf]; omega
      · have e1 : (geti cuts j != geti key j) = true := by simp [heq]
        have HE := Lib.hid heq; clear heq
        cases hg : hasI (getl l j) (geti cuts j)
        · have HG := Lib.hid hg; clear hg
          go_wp2_with (go_at_call 160; refine (slContains_b _ _ _ _ _ HG.out hr2).mono ?_; rintro e' w' ⟨rfl, rfl⟩)
          go_ret
          exact ⟨ret_bool (by rw [Hm.out, upAll_step hjj, HG.out, decide_eq_false HE.out]; rfl), hB01⟩
        · have HG := Lib.hid hg; clear hg
          go_wp2_with (go_at_call 160; refine (slContains_b _ _ _ _ _ HG.out hr2).mono ?_; rintro e' w' ⟨rfl, rfl⟩)
          go_round
          case rel => exact ⟨j + 1, by omega, by go_num, by rw [Hm.out, upAll_step hjj, HG.out, decide_eq_false HE.out]; rfl⟩
          case measure => simp [intOf]; omega
    · obtain rfl : j = cuts.length := by omega
      go_wp2_with fail
      go_ret
      exact ⟨ret_bool (by rw [Hm.out, upAll_end]), hB01⟩
theorem opensWith_b {S S' S2 : Nat → Prop} (u v k : Value) (l : List (List Int)) (key cuts : List Int) (W : World) (r : Bool) (hr : opensWithB l key cuts = r) (h : V2 S W u l) (hk : V1 S2 W k key) (hc : V1 S' W v cuts) (hl : cuts.length ≤ l.length) (hkl : cuts.length ≤ key.length) :
    Calls Tryz.prog 226 #[.agg #[u], k, v] W fun e' w' => e' = .returned (.bool r) ∧ Below W.heap.size W w' := by subst hr; exact opensWith_any u v k l key cuts W h hk hc hl hkl
theorem enters_stay : Enters 225 := fun args w => by kernel_rfl
def stayQ (t cuts : List (List Int)) (locks : List (List (List Int))) (key : List Int) (d k : Nat) : Bool := !(decide (geti (getl t cuts.length) d = 1) && decide (geti (getl t k) d = 0) && opensWithB (getll locks d) key (getl cuts k))
theorem stayD_eq (t cuts : List (List Int)) (locks : List (List (List Int))) (key : List Int) (d : Nat) : stayD t cuts locks key d = (!(decide (geti (getl t cuts.length) d = 0) && opensB (getll locks d) key) && upAll (stayQ t cuts locks key d) cuts.length 0) := rfl
set_option maxRecDepth 100000 in
set_option maxHeartbeats 2000000 in
theorem stay1_any {S S1 S2 S3 : Nat → Prop} (m : Mk) (t cuts : List (List Int)) (locks : List (List (List Int))) (key : List Int) (tv lv cv kv rv : Value) (LB RB CB SB : Nat) (W : World) (n : Nat)
    (hl : locks.length = (getl t 0).length) (hln : ∀ d, d < locks.length → (getll locks d).length = n) (hkn : key.length = n) (hcn : ∀ k, k < cuts.length → (getl cuts k).length = n) (hct : cuts.length < t.length) (hcols : ∀ k, k < t.length → (getl t k).length = (getl t 0).length)
    (hbits : ∀ d, d < (getl t 0).length → geti (getl t cuts.length) d = 0 ∨ geti (getl t cuts.length) d = 1)
    (hL : W.cell? ⟨LB, 0, none⟩ = some lv) (hR : W.cell? ⟨RB, 0, none⟩ = some rv) (hC : W.cell? ⟨CB, 0, none⟩ = some cv) (hS : ∀ o, W.cell? ⟨SB, o, none⟩ = (#[.int .i64 m.c, .int .i64 m.d, .int .i64 m.s, .int .i64 m.e, .int .i64 m.l, tv] : Array Value)[o]?) (hSl : SB < W.heap.size)
    (hlv : V3 S W lv locks) (hrv : V1 S1 W rv (getl t cuts.length)) (hcv : V2 S2 W cv cuts) (htv : V2 S3 W tv t) (hkv : V1 S W kv key) :
    Calls Tryz.prog 225 #[kv, .pointer (some ⟨LB, 0, none⟩), .pointer (some ⟨RB, 0, none⟩), .pointer (some ⟨CB, 0, none⟩), .pointer (some ⟨SB, 0, none⟩)] W fun e' w' => e' = .returned (.bool (staysB t cuts locks key)) ∧ Below W.heap.size W w' := by
  obtain ⟨la, lc, rfl, hlm⟩ := hlv.form
  obtain ⟨ra, rc, rfl, hrm⟩ := hrv.form
  obtain ⟨ca, cc, rfl, hcm⟩ := hcv.form
  obtain ⟨ta, tc, rfl, htm⟩ := htv.form
  obtain ⟨ka, kc, rfl, hkm⟩ := hkv.form
  have hrl : (getl t cuts.length).length = (getl t 0).length := hcols _ hct
  obtain ⟨r, hr⟩ : ∃ r, staysB t cuts locks key = r := ⟨_, rfl⟩
  rw [hr]
  have Hr := Lib.hid hr; clear hr
  have hV := Lib.hid (And.intro hlv (And.intro hrv (And.intro hcv (And.intro htv hkv)))); clear hlv hrv hcv htv hkv
  have Hc := Lib.hid (And.intro hl (And.intro hln (And.intro hkn (And.intro hcn (And.intro hcols (And.intro hbits hrl)))))); clear hl hln hkn hcn hcols hbits hrl
  go_enter Tryz.func225, Tryz.ntmps225
  go_wp2_with fail
  go_loopw [7, 8, 9, 10, 13, 30] (fun _ _ _ _ i _ wr => ∃ d : Nat, d ≤ locks.length ∧ i = .int .i64 (d : Int) ∧ r = upAll (stayD t cuts locks key) locks.length d ∧ Below W.heap.size W wr) (fun _ _ _ _ i _ _ => locks.length - (intOf i).toNat)
  case atStart => exact ⟨0, Nat.zero_le _, rfl, by rw [← Hr.out, Hc.out.1]; rfl, Below.refl _ _⟩
  case round =>
    obtain ⟨d, hd, rfl, hrem, hB⟩ := hrel
    have hzr := hB.size
    have Hm := Lib.hid hrem; clear hrem
    by_cases hdd : d < locks.length
    · obtain ⟨b2, off2, a2, c2, rfl, _, hc2, hr2⟩ := (hV.out.1.below hB).cell hdd
      have hdr : d < (getl t cuts.length).length := by rw [Hc.out.2.2.2.2.2.2, ← Hc.out.1]; exact hdd
      obtain ⟨b3, off3, rfl, _, hc3⟩ := (hV.out.2.1.below hB).cell hdr
      have hR1 := cell_keep hR (hB.block _ (lt_of_cell hR))
      have hC1 := cell_keep hC (hB.block _ (lt_of_cell hC))
      have hbx : Below wr.heap.size wr (wr.alloc (.cells #[.slice a2 (getll locks d).length c2] 155)) := (Below.refl _ _).alloc (Nat.le_refl _) _
      have hkl : key.length ≤ (getll locks d).length := by rw [Hc.out.2.1 d hdd, Hc.out.2.2.1]; exact Nat.le_refl _
      have hRx := cell_keep hR1 (hbx.block _ (lt_of_cell hR1))
      have hCx := cell_keep hC1 (hbx.block _ (lt_of_cell hC1))
      have hc3x := cell_keep hc3 (hbx.block _ (lt_of_cell hc3))
      by_cases h0 : geti (getl t cuts.length) d = 0
      · have e0 : (geti (getl t cuts.length) d == 0) = true := by rw [beq_iff_eq]; exact h0
        cases ho : opensB (getll locks d) key
        · have e1 : (geti (getl t cuts.length) d == 1) = false := by rw [beq_eq_false_iff_ne, h0]; decide
          have hA : (!(decide (geti (getl t cuts.length) d = 0) && opensB (getll locks d) key)) = true := by rw [ho, Bool.and_false]; rfl
          have hrow : decide (geti (getl t cuts.length) d = 1) = false := by rw [h0]; rfl
          have Hrow := Lib.hid hrow
          have HA := Lib.hid (And.intro hA ho); clear hA ho hrow h0
          go_wp2_with fail
          refine (opens_b _ _ (getll locks d) key _ _ HA.out.2 (hr2.below hbx) ((hV.out.2.2.2.2.below hB).below hbx) hkl).mono ?_
          rintro e' w5 ⟨rfl, hb5⟩
          have hbw := hbx.trans (hb5.mono hbx.size)
          have hCw := cell_keep hC1 (hbw.block _ (lt_of_cell hC1))
          clear hRx hCx hc3x hbx hb5
          go_wp2_with fail
          go_loopw [9, 10, 30] (fun _ _ i wn => ∃ k : Nat, k ≤ cuts.length ∧ i = .int .i64 (k : Int) ∧ upAll (stayQ t cuts locks key d) cuts.length 0 = upAll (stayQ t cuts locks key d) cuts.length k ∧ Below (w5).heap.size (w5) wn) (fun _ _ i _ => cuts.length - (intOf i).toNat)
          case atStart => exact ⟨0, Nat.zero_le _, rfl, rfl, Below.refl _ _⟩
          case round =>
            obtain ⟨k, hk, rfl, hqe, hBn⟩ := hrel
            have hBr := hbw.trans (hBn.mono hbw.size)
            have hBW := hB.trans (hBr.mono hzr)
            have hzn := hBr.size
            have Hq := Lib.hid hqe; clear hqe
            have hRn := cell_keep hR1 (hBr.block _ (lt_of_cell hR1))
            have hc3n := cell_keep hc3 (hBr.block _ (lt_of_cell hc3))
            by_cases hkk : k < cuts.length
            · obtain ⟨b5, off5, a5, c5, rfl, _, hc5, hr5⟩ := (hV.out.2.2.1.below hBW).cell hkk
              have hq : stayQ t cuts locks key d k = true := by unfold stayQ; rw [Hrow.out]; rfl
              have Hqk := Lib.hid hq; clear hq
              go_wp2_with fail
              go_roundw
              case rel => exact ⟨k + 1, by omega, by go_num, by rw [Hq.out, upAll_step hkk, Hqk.out]; rfl, hBn⟩
              case measure => simp [intOf]; omega
            · obtain rfl : k = cuts.length := by omega
              have hst : stayD t cuts locks key d = true := by rw [stayD_eq, Hq.out, upAll_end, Bool.and_true]; exact HA.out.1
              have Hst := Lib.hid hst; clear hst
              go_wp2_with fail
              go_roundw
              case rel => exact ⟨d + 1, by omega, by go_num, by rw [Hm.out, upAll_step hdd, Hst.out]; rfl, hBW⟩
              case measure => simp [intOf]; omega
        · have hst : stayD t cuts locks key d = false := by rw [stayD_eq, decide_eq_true h0, ho]; rfl
          have Hst := Lib.hid (And.intro hst (And.intro ho h0)); clear hst ho h0
          go_wp2_with fail
          refine (opens_b _ _ (getll locks d) key _ _ Hst.out.2.1 (hr2.below hbx) ((hV.out.2.2.2.2.below hB).below hbx) hkl).mono ?_
          rintro e' w5 ⟨rfl, hb5⟩
          have hB5 := hB.trans ((hbx.trans (hb5.mono hbx.size)).mono hzr)
          go_wp2_with fail
          go_ret
          exact ⟨ret_bool (by rw [Hm.out, upAll_step hdd, Hst.out.1]; rfl), hB5⟩
      · have h1 : geti (getl t cuts.length) d = 1 := by
          rcases Hc.out.2.2.2.2.2.1 d (by rw [← Hc.out.1]; exact hdd) with h | h
          · exact absurd h h0
          · exact h
        have e0 : (geti (getl t cuts.length) d == 0) = false := by rw [beq_eq_false_iff_ne]; exact h0
        have e1 : (geti (getl t cuts.length) d == 1) = true := by rw [beq_iff_eq]; exact h1
        have hA : (!(decide (geti (getl t cuts.length) d = 0) && opensB (getll locks d) key)) = true := by rw [decide_eq_false h0]; rfl
        have HA := Lib.hid hA; clear hA
        have hLx : (wr.alloc (.cells #[.slice a2 (getll locks d).length c2] 155)).cell? ⟨wr.heap.size, 0, none⟩ = some (.slice a2 (getll locks d).length c2) := by rw [cell_of_block (heap_alloc_self _ _)]; rfl
        obtain ⟨WB, hWB⟩ : ∃ WB, wr.heap.size = WB := ⟨_, rfl⟩
        rw [hWB] at hLx
        have hwB := hbx
        go_wp2_with fail
        go_loopw [9, 10, 30] (fun _ _ i wn => ∃ k : Nat, k ≤ cuts.length ∧ i = .int .i64 (k : Int) ∧ upAll (stayQ t cuts locks key d) cuts.length 0 = upAll (stayQ t cuts locks key d) cuts.length k ∧ Below (wr.alloc (.cells #[.slice a2 (getll locks d).length c2] 155)).heap.size (wr.alloc (.cells #[.slice a2 (getll locks d).length c2] 155)) wn) (fun _ _ i _ => cuts.length - (intOf i).toNat)
        case atStart => exact ⟨0, Nat.zero_le _, rfl, rfl, Below.refl _ _⟩
        case round =>
          obtain ⟨k, hk, rfl, hqe, hBn⟩ := hrel
          have hBr := hwB.trans (hBn.mono hwB.size)
          have hBW := hB.trans (hBr.mono hzr)
          have hzn := hBr.size
          have Hq := Lib.hid hqe; clear hqe
          have hRn := cell_keep hR1 (hBr.block _ (lt_of_cell hR1))
          have hc3n := cell_keep hc3 (hBr.block _ (lt_of_cell hc3))
          by_cases hkk : k < cuts.length
          · obtain ⟨b5, off5, a5, c5, rfl, _, hc5, hr5⟩ := (hV.out.2.2.1.below hBW).cell hkk
            have hkt : k < t.length := by omega
            obtain ⟨b6, off6, a6, c6, rfl, _, hc6, hr6⟩ := (hV.out.2.2.2.1.below hBW).cell hkt
            have hdk : d < (getl t k).length := by rw [Hc.out.2.2.2.2.1 k hkt, ← Hc.out.1]; exact hdd
            obtain ⟨b7, off7, rfl, _, hc7⟩ := hr6.cell hdk
            have hSn : ∀ o, wr.cell? ⟨SB, o, none⟩ = (#[.int .i64 m.c, .int .i64 m.d, .int .i64 m.s, .int .i64 m.e, .int .i64 m.l, .slice (some ⟨b6, off6, none⟩) t.length tc] : Array Value)[o]? := fun o => by rw [(bcell hBW).1 _ _ hSl, hS]
            have hLn : wr.cell? ⟨WB, 0, none⟩ = some (.slice a2 (getll locks d).length c2) := cell_keep hLx (hBn.block _ (lt_of_cell hLx))
            have hr2n := hr2.below hBr
            have hkvn := hV.out.2.2.2.2.below hBW
            have hcl : (getl cuts k).length ≤ (getll locks d).length := by rw [Hc.out.2.1 d hdd, Hc.out.2.2.2.1 k hkk]; exact Nat.le_refl _
            have hck : (getl cuts k).length ≤ key.length := by rw [Hc.out.2.2.1, Hc.out.2.2.2.1 k hkk]; exact Nat.le_refl _
            by_cases ha : geti (getl t k) d = 0
            · have e2 : (geti (getl t k) d == 0) = true := by rw [beq_iff_eq]; exact ha
              cases how : opensWithB (getll locks d) key (getl cuts k)
              · have hq : stayQ t cuts locks key d k = true := by unfold stayQ; rw [how, Bool.and_false]; rfl
                have Hqk := Lib.hid (And.intro hq how); clear hq how
                go_wp2_with fail
                refine (opensWith_b _ _ _ (getll locks d) key (getl cuts k) _ _ Hqk.out.2 hr2n hkvn hr5 hcl hck).mono ?_
                rintro e' w8 ⟨rfl, hb8⟩
                have HB8 := Lib.hid (hBn.trans (hb8.mono hBn.size))
                go_wp2_with fail
                go_roundw
                case rel => exact ⟨k + 1, by omega, by go_num, by rw [Hq.out, upAll_step hkk, Hqk.out.1]; rfl, HB8.out⟩
                case measure => simp [intOf]; omega
              · have hq : stayQ t cuts locks key d k = false := by unfold stayQ; rw [how, h1, ha]; rfl
                have Hqk := Lib.hid (And.intro hq how); clear hq how
                go_wp2_with fail
                refine (opensWith_b _ _ _ (getll locks d) key (getl cuts k) _ _ Hqk.out.2 hr2n hkvn hr5 hcl hck).mono ?_
                rintro e' w8 ⟨rfl, hb8⟩
                have HB8 := Lib.hid (hBW.trans (hb8.mono hBW.size))
                go_wp2_with fail
                go_ret
                exact ⟨ret_bool (by rw [Hm.out, upAll_step hdd, stayD_eq, Hq.out, upAll_step hkk, Hqk.out.1]; simp), HB8.out⟩
            · have e2 : (geti (getl t k) d == 0) = false := by rw [beq_eq_false_iff_ne]; exact ha
              have hq : stayQ t cuts locks key d k = true := by unfold stayQ; rw [decide_eq_false ha, Bool.and_false, Bool.false_and]; rfl
              have Hqk := Lib.hid hq; clear hq
              go_wp2_with fail
              go_roundw
              case rel => exact ⟨k + 1, by omega, by go_num, by rw [Hq.out, upAll_step hkk, Hqk.out]; rfl, hBn⟩
              case measure => simp [intOf]; omega
          · obtain rfl : k = cuts.length := by omega
            have hst : stayD t cuts locks key d = true := by rw [stayD_eq, Hq.out, upAll_end, Bool.and_true]; exact HA.out
            have Hst := Lib.hid hst; clear hst
            go_wp2_with fail
            go_roundw
            case rel => exact ⟨d + 1, by omega, by go_num, by rw [Hm.out, upAll_step hdd, Hst.out]; rfl, hBW⟩
            case measure => simp [intOf]; omega
    · obtain rfl : d = locks.length := by omega
      go_wp2_with fail
      go_ret
      exact ⟨ret_bool (by rw [Hm.out, upAll_end]), hB⟩
/-- What the function that staysOpen returns stands on. -/
def StayAt (S : Nat → Prop) (m : Mk) (t cuts : List (List Int)) (locks : List (List (List Int))) (LB RB CB SB : Nat) (w : World) : Prop :=
  ∃ lv rv cv tv, w.cell? ⟨LB, 0, none⟩ = some lv ∧ w.cell? ⟨RB, 0, none⟩ = some rv ∧ w.cell? ⟨CB, 0, none⟩ = some cv ∧ (∀ o, w.cell? ⟨SB, o, none⟩ = (#[.int .i64 m.c, .int .i64 m.d, .int .i64 m.s, .int .i64 m.e, .int .i64 m.l, tv] : Array Value)[o]?) ∧ SB < w.heap.size ∧
    S LB ∧ S RB ∧ S CB ∧ S SB ∧ V3 S w lv locks ∧ V1 S w rv (getl t cuts.length) ∧ V2 S w cv cuts ∧ V2 S w tv t
theorem StayAt.keep {S : Nat → Prop} {m : Mk} {t cuts : List (List Int)} {locks : List (List (List Int))} {LB RB CB SB : Nat} {w w' : World} (h : StayAt S m t cuts locks LB RB CB SB w) (hz : w.heap.size ≤ w'.heap.size) (hk : Keep S w w') : StayAt S m t cuts locks LB RB CB SB w' := by
  obtain ⟨lv, rv, cv, tv, h1, h2, h3, h4, h5, s1, s2, s3, s4, h6, h7, h8, h9⟩ := h
  refine ⟨lv, rv, cv, tv, cell_keep h1 (hk _ s1 (lt_of_cell h1)), cell_keep h2 (hk _ s2 (lt_of_cell h2)), cell_keep h3 (hk _ s3 (lt_of_cell h3)), fun o => ?_, by omega, s1, s2, s3, s4, h6.mono (fun _ h _ => h) hk, h7.mono (fun _ h _ => h) hk, h8.mono (fun _ h _ => h) hk, h9.mono (fun _ h _ => h) hk⟩
  rw [← h4]
  exact World.cell?_of_block (w := w) (a := ⟨SB, o, none⟩) (hk _ s4 h5)
def StayPost (S : Nat → Prop) (m : Mk) (t cuts : List (List Int)) (locks : List (List (List Int))) (W : World) (e : Ending) (w' : World) : Prop :=
  ∃ LB RB CB SB, e = .returned (.func (.func 225) #[] #[.pointer (some ⟨LB, 0, none⟩), .pointer (some ⟨RB, 0, none⟩), .pointer (some ⟨CB, 0, none⟩), .pointer (some ⟨SB, 0, none⟩)]) ∧ StayAt S m t cuts locks LB RB CB SB w' ∧ Below W.heap.size W w'
end Go.Proofs.YtikdbjaimcciiaaGreat
