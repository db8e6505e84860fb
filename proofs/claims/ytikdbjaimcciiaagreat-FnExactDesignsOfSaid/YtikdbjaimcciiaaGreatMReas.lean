/- What the program and the reference answer on reasons: the rows that a reason may have. No conditions. -/
import Derived.Test.YtikdbjaimcciiaaGreatParts
import Derived.Test.YtikdbjaimcciiaaGreatOut
import Derived.Test.YtikdbjaimcciiaaGreatFits
namespace Go.Proofs.YtikdbjaimcciiaaGreat
open Go.RowKit
set_option linter.unusedVariables false
set_option linter.unusedSimpArgs false

/-- The rows among the first k that open the door and have the cut of the row key in chamber c. -/
def reasRow (t cuts : List (List Int)) (key door c : Nat) : Nat → List Int
  | 0 => []
  | k + 1 => if geti (getl t k) door = 1 ∧ geti (getl cuts k) c = geti (getl cuts key) c then reasRow t cuts key door c k ++ [(k : Int)] else reasRow t cuts key door c k
def reasRows (t cuts : List (List Int)) (key door : Nat) (n : Nat) : List (List Int) := (List.range n).map fun c => reasRow t cuts key door c cuts.length
theorem reasRow_len (t cuts : List (List Int)) (key door c : Nat) : ∀ k, (reasRow t cuts key door c k).length ≤ k
  | 0 => Nat.le_refl _
  | k + 1 => by have := reasRow_len t cuts key door c k; unfold reasRow; split <;> simp <;> omega
theorem mem_reasRow {t cuts : List (List Int)} {key door c : Nat} {x : Int} : ∀ {k}, x ∈ reasRow t cuts key door c k ↔ ∃ i : Nat, i < k ∧ x = i ∧ geti (getl t i) door = 1 ∧ geti (getl cuts i) c = geti (getl cuts key) c
  | 0 => by simp [reasRow]
  | k + 1 => by
    unfold reasRow
    split
    · rename_i h
      rw [List.mem_append, mem_reasRow]
      constructor
      · rintro (⟨i, h1, h2, h3⟩ | h1)
        · exact ⟨i, by omega, h2, h3⟩
        · simp at h1; exact ⟨k, by omega, h1, h⟩
      · rintro ⟨i, h1, h2, h3⟩
        by_cases e : i = k
        · subst e; right; simp [h2]
        · exact .inl ⟨i, by omega, h2, h3⟩
    · rename_i h
      rw [mem_reasRow]
      constructor
      · rintro ⟨i, h1, h2, h3⟩; exact ⟨i, by omega, h2, h3⟩
      · rintro ⟨i, h1, h2, h3⟩
        refine ⟨i, ?_, h2, h3⟩
        by_cases e : i = k
        · subst e; exact absurd h3 h
        · omega
theorem reasRows_succ (t cuts : List (List Int)) (key door n : Nat) : reasRows t cuts key door (n + 1) = reasRows t cuts key door n ++ [reasRow t cuts key door n cuts.length] := by
  unfold reasRows; rw [List.range_succ, List.map_append]; rfl
theorem reasRows_len (t cuts : List (List Int)) (key door n : Nat) : (reasRows t cuts key door n).length = n := by simp [reasRows]
theorem reasRows_get {t cuts : List (List Int)} {key door n c : Nat} (h : c < n) : getl (reasRows t cuts key door n) c = reasRow t cuts key door c cuts.length := by
  rw [getl_eq (by rw [reasRows_len]; exact h)]; simp [reasRows]

theorem fits_of {m : Mk} {t cuts : List (List Int)} (h : partC m t cuts = 0) : Fits m t cuts := by
  obtain ⟨h1, h2, h3⟩ := partC_ok.1 h
  obtain ⟨hok, htab, _⟩ := isSys_parts h1
  obtain ⟨htl, htr⟩ := isTab_iff.1 htab
  have hk := allKeys_iff.1 h3
  exact ⟨hok, htl, fun k hk => (htr k hk).1, (htr 0 (by omega)).2.1, fun k hk => (htr k hk).2.2, h2, hk, fun k hkk => (isKey_iff.1 (hk k hkk)).1, fun k hkk c hc => (isKey_iff.1 (hk k hkk)).2.1 _ (geti_mem hc)⟩

set_option maxRecDepth 100000 in
theorem reasonRows_any {S S' : Nat → Prop} (m : Mk) (u v : Value) (t cuts : List (List Int)) (key door n : Nat) (W : World) (hf : Fits m t cuts) (hk : key < cuts.length) (hd : door < (getl t 0).length) (hn : (n : Int) = m.c) (h : V2 S W u t) (hc : V2 S' W v cuts) :
    Calls Tryz.prog 156 #[.agg #[.int .i64 m.c, .int .i64 m.d, .int .i64 m.s, .int .i64 m.e, .int .i64 m.l, u], v, .int .i64 key, .int .i64 door] W fun e' w' => ∃ v', e' = .returned v' ∧ F2 W.heap.size w' v' (reasRows t cuts key door n) ∧ Below W.heap.size W w' := by
  obtain ⟨a, c, rfl, hmx⟩ := h.form
  obtain ⟨a', c', rfl, hmx'⟩ := hc.form
  have hmk := Mk.ok_iff.1 hf.ok
  have hrows := hf.rows
  have hfew := hf.few
  have hlk := hf.lens key hk
  have hkl : (getl cuts key).length = n := by omega
  have hn6 : n ≤ 6 := by omega
  have hdd : ∀ k, k < t.length → door < (getl t k).length := fun k hk => by rw [hf.cols k hk]; exact hd
  have hcc : ∀ k, k < cuts.length → (getl cuts k).length = n := fun k hk => by have := hf.lens k hk; omega
  have Hdd := Lib.hid hdd; clear hdd
  have Hcc := Lib.hid hcc; clear hcc
  have Hf := Lib.hid hf; clear hf
  have Hkl := Lib.hid hkl; clear hkl hmk
  clear hlk hn
  obtain ⟨W1, hW1, hB01, hz01, HZ01, hc01, hh01⟩ := box_facts W #[.int .i64 m.c, .int .i64 m.d, .int .i64 m.s, .int .i64 m.e, .int .i64 m.l, .slice a t.length c] 28
  have hV1 := h.below hB01
  have hC1 := hc.below hB01
  obtain ⟨b0, off0, a0, c0, rfl, _, hc0, hr0⟩ := hc.cell hk
  have hr01 := hr0.below hB01
  have hl0 := hr0.len
  unfold maxLen at hl0
  have hlen0 : (getl cuts key).length ≤ 6 := by rw [Hkl.out]; exact hn6
  have hcA : ∀ o1 o2, ((W.alloc o1).alloc o2).cell? ⟨b0, off0 + key, none⟩ = some (.slice a0 (getl cuts key).length c0) := fun o1 o2 => cell_keep hc0 ((show Below W.heap.size W ((W.alloc o1).alloc o2) from by go_grown).block _ (lt_of_cell hc0))
  have hout0 := Out2.start W1 W1.heap.size (Nat.le_refl _)
  have Hout0 := Lib.hid hout0; clear hout0 hc0
  go_enter Tryz.func156, Tryz.ntmps156
  go_wp2_with fail
  rw [← hW1, show W.heap.size + 1 = W1.heap.size from HZ01.out.symm]
  have HW1 := Lib.hid hW1; clear hW1 hh01 hcA
  have Hc01 := Lib.hid hc01; clear hc01
  go_loopw [9, 10, 11, 12, 13, 14, 21] (fun ou _ _ _ _ _ i wr => ∃ x : Nat, x ≤ n ∧ i = .int .i64 (x : Int) ∧ Out2 W1.heap.size wr ou (reasRows t cuts key door x) ∧ Below W1.heap.size W1 wr) (fun _ _ _ _ _ _ i _ => n - (intOf i).toNat)
  case atStart => exact ⟨0, Nat.zero_le _, rfl, Hout0.out, (Below.refl _ _).alloc (Nat.le_refl _) _⟩
  case round =>
    obtain ⟨x, hx, rfl, hO, hB⟩ := hrel
    obtain ⟨wo, rfl⟩ : ∃ wo, wo = wr := ⟨_, rfl⟩
    have hzr := hB.size
    by_cases hxn : x < n
    · obtain ⟨wrB, hwrB⟩ : ∃ B, B = wo.heap.size := ⟨_, rfl⟩
      have hxk : x < (getl cuts key).length := by rw [Hkl.out]; exact hxn
      obtain ⟨bx, offx, rfl, _, hcx⟩ := (hr01.below hB).cell hxk
      have hown0 := own_lit0 wo wrB 2 1 (by omega)
      have HO := Lib.hid hO; clear hO
      have hB2 := hB.alloc hzr (.cells #[] 2)
      go_wp2_with fail
      go_loopw [12, 13, 14, 29] (fun ro _ _ i wn => ∃ k : Nat, k ≤ cuts.length ∧ i = .int .i64 (k : Int) ∧ wn.ownsRow wrB 2 1 ro (reasRow t cuts key door x k).length ((reasRow t cuts key door x k).map (Value.int .i64)) ∧ Below wrB wo wn) (fun _ _ _ i _ => cuts.length - (intOf i).toNat)
      case atStart => exact ⟨0, Nat.zero_le _, rfl, hown0, (Below.refl _ _).alloc (by omega) _⟩
      case round =>
        obtain ⟨k, hk2, rfl, hown, hBn⟩ := hrel
        have hrl := reasRow_len t cuts key door x k
        have hzn := hBn.size
        by_cases hkk : k < cuts.length
        · have hBW := hB.trans (hBn.mono (by omega))
          have hxb : ∀ o, wr.cell? ⟨W.heap.size, o, none⟩ = (#[.int .i64 m.c, .int .i64 m.d, .int .i64 m.s, .int .i64 m.e, .int .i64 m.l, .slice a t.length c] : Array Value)[o]? := fun o => by rw [(bcell hBW).1 _ _ hz01, Hc01.out]
          obtain ⟨b1, off1, a1, c1, e1, _, hc1, hr1⟩ := (hC1.below hBW).cell hkk
          simp only [Option.some.injEq, Addr.mk.injEq, and_true] at e1
          obtain ⟨rfl, rfl⟩ := e1
          obtain ⟨b2, off2, a2, c2, rfl, _, hc2, hr2⟩ := (hV1.below hBW).cell (k := k) (by omega)
          obtain ⟨b3, off3, rfl, _, hc3⟩ := hr2.cell (Hdd.out k (by omega))
          have hxk2 : x < (getl cuts k).length := by rw [Hcc.out k hkk]; exact hxn
          obtain ⟨b4, off4, rfl, _, hc4⟩ := hr1.cell hxk2
          have hl2 := hr2.len
          have hl1 := hr1.len
          have hdk := Hdd.out k (by omega)
          unfold maxLen at hl1 hl2
          by_cases h1 : geti (getl t k) door = 1
          · have e2 : (geti (getl t k) door == 1) = true := by simp [h1]
            by_cases h2 : geti (getl cuts k) x = geti (getl cuts key) x
            · have e3 : (geti (getl cuts k) x == geti (getl cuts key) x) = true := by simp [h2]
              have hst : reasRow t cuts key door x (k + 1) = reasRow t cuts key door x k ++ [(k : Int)] := by rw [reasRow, if_pos ⟨h1, h2⟩]
              have Hst := Lib.hid hst; clear hst
              have H1 := Lib.hid h1; clear h1
              have H2 := Lib.hid h2; clear h2
              go_wp2_with (at_builtin; refine wp_app1 _ rfl _ _ 35 rfl wrB 2 (.int .i64 0) 8 Tryz.underlying35 inf_int rfl _ _ _ rfl hown (.int .i64 k) _ rfl rfl (by omega) (by omega) (by omega) ?_; intro v1 w1 hown1 hgrow1 hblk1 hB1)
              go_roundw
              case rel => exact ⟨k + 1, by omega, by go_num, by rw [Hst.out, List.map_append, List.length_append]; exact hown1, hBn.trans (hB1.mono (Nat.le_refl _))⟩
              case measure => simp [intOf]; omega
            · have e3 : (geti (getl cuts k) x == geti (getl cuts key) x) = false := by simp [h2]
              have hst : reasRow t cuts key door x (k + 1) = reasRow t cuts key door x k := by rw [reasRow, if_neg (fun h => h2 h.2)]
              have Hst := Lib.hid hst; clear hst
              have H1 := Lib.hid h1; clear h1
              have H2 := Lib.hid h2; clear h2
              go_wp2_with fail
              go_roundw
              case rel => exact ⟨k + 1, by omega, by go_num, by rw [Hst.out]; exact hown, hBn⟩
              case measure => simp [intOf]; omega
          · have e2 : (geti (getl t k) door == 1) = false := by simp [h1]
            have hst : reasRow t cuts key door x (k + 1) = reasRow t cuts key door x k := by rw [reasRow, if_neg (fun h => h1 h.1)]
            have Hst := Lib.hid hst; clear hst
            have H1 := Lib.hid h1; clear h1
            go_wp2_with fail
            go_roundw
            case rel => exact ⟨k + 1, by omega, by go_num, by rw [Hst.out]; exact hown, hBn⟩
            case measure => simp [intOf]; omega
        · obtain rfl : k = cuts.length := by omega
          obtain ⟨vs, bk, g1, g2, g3⟩ := HO.out
          have hBwo : Below wo.heap.size wo wr := hBn.mono (by omega)
          obtain ⟨bx1, hx1, hbx⟩ := own_F1 hown
          have hO4 := own_chg g1 (Chg.of_below (F := fun _ => False) hBwo) (fun _ _ h => h)
          obtain ⟨ra, rc, rfl, hrc1, hrc2⟩ := own_form hown
          have hlx := Nat.le_of_eq (reasRows_len t cuts key door x)
          have G := Lib.hid (And.intro g1 (And.intro g2 g3)); clear g1 g2 g3
          have Hx1 := Lib.hid (And.intro hx1 hbx); clear hx1 hbx hown
          go_wp2_with (at_builtin; refine wp_app1 _ rfl _ _ 26 rfl W1.heap.size 35 (.slice none 0 0) 24 Tryz.underlying26 inf_ints rfl _ _ _ rfl hO4 (.slice ra (reasRow t cuts key door x cuts.length).length rc) _ rfl rfl (by omega) (by omega) (by omega) ?_; intro v1 w1 hown1 hgrow1 hblk1 hB1)
          go_roundw
          case rel => exact ⟨x + 1, by omega, by go_num, by rw [reasRows_succ]; exact Out2.push G.out.1 G.out.2.1 G.out.2.2 hzr hBwo Hx1.out.1 (fun hn => by have := Hx1.out.2 hn; omega) hown1 hgrow1 hblk1, (hB.trans (hBwo.mono hzr)).trans hB1⟩
          case measure => simp [intOf]; omega
    · obtain rfl : x = n := by omega
      have hfx := hO.f2
      have hkl2 := Nat.le_of_eq Hkl.out
      go_wp2_with fail
      go_ret
      exact ⟨_, rfl, F2.mono hfx (by omega), hB01.trans (hB.mono (by omega))⟩
end Go.Proofs.YtikdbjaimcciiaaGreat

namespace Go.Proofs.YtikdbjaimcciiaaGreat
open Go.RowKit
set_option linter.unusedVariables false
set_option linter.unusedSimpArgs false

set_option maxRecDepth 100000 in
set_option maxHeartbeats 2000000 in
theorem l18Rows_any {S S' : Nat → Prop} (m : Mk) (u v : Value) (t cuts : List (List Int)) (key door n : Nat) (W : World) (hf : Fits m t cuts) (hk : key < cuts.length) (hd : door < (getl t 0).length) (hn : (n : Int) = m.c) (h : V2 S W u t) (hc : V2 S' W v cuts) :
    Calls Tryz.prog 139 #[.agg #[.int .i64 m.c, .int .i64 m.d, .int .i64 m.s, .int .i64 m.e, .int .i64 m.l, u], v, .int .i64 key, .int .i64 door] W fun e' w' => ∃ v', e' = .returned v' ∧ F2 W.heap.size w' v' (reasRows t cuts key door n) ∧ Below W.heap.size W w' := by
  obtain ⟨a, c, rfl, hmx⟩ := h.form
  obtain ⟨a', c', rfl, hmx'⟩ := hc.form
  have hmk := Mk.ok_iff.1 hf.ok
  have hrows := hf.rows
  have hfew := hf.few
  have hn6 : n ≤ 6 := by omega
  have hdd : ∀ k, k < t.length → door < (getl t k).length := fun k hk => by rw [hf.cols k hk]; exact hd
  have hcc : ∀ k, k < cuts.length → (getl cuts k).length = n := fun k hk => by have := hf.lens k hk; omega
  have Hdd := Lib.hid hdd; clear hdd
  have Hcc := Lib.hid hcc; clear hcc
  have Hf := Lib.hid hf; clear hf hmk
  have hn1 : (n : Int) ≤ m.c := by omega
  have hn2 : m.c ≤ n := by omega
  clear hn
  obtain ⟨W1, hW1, hB01, hz01, HZ01, hc01, hh01⟩ := box_facts W #[.int .i64 m.c, .int .i64 m.d, .int .i64 m.s, .int .i64 m.e, .int .i64 m.l, .slice a t.length c] 28
  have hV1 := h.below hB01
  have hC1 := hc.below hB01
  have hout0 := Out2.start W1 W1.heap.size (Nat.le_refl _)
  have Hout0 := Lib.hid hout0; clear hout0
  go_enter Tryz.func139, Tryz.ntmps139
  go_wp2_with fail
  rw [← hW1, show W.heap.size + 1 = W1.heap.size from HZ01.out.symm]
  have HW1 := Lib.hid hW1; clear hW1 hh01
  have Hc01 := Lib.hid hc01; clear hc01
  go_loopw [9, 10, 11, 12] (fun ou i _ _ wr => ∃ x : Nat, x ≤ n ∧ i = .int .i64 (x : Int) ∧ Out2 W1.heap.size wr ou (reasRows t cuts key door x) ∧ Below W1.heap.size W1 wr) (fun _ i _ _ _ => n - (intOf i).toNat)
  case atStart => exact ⟨0, Nat.zero_le _, rfl, Hout0.out, (Below.refl _ _).alloc (Nat.le_refl _) _⟩
  case round =>
    obtain ⟨x, hx, rfl, hO, hB⟩ := hrel
    obtain ⟨wo, rfl⟩ : ∃ wo, wo = wr := ⟨_, rfl⟩
    have hzr := hB.size
    have hxo : ∀ o, wo.cell? ⟨W.heap.size, o, none⟩ = (#[.int .i64 m.c, .int .i64 m.d, .int .i64 m.s, .int .i64 m.e, .int .i64 m.l, .slice a t.length c] : Array Value)[o]? := fun o => by rw [(bcell hB).1 _ _ hz01, Hc01.out]
    by_cases hxn : x < n
    · obtain ⟨wrB, hwrB⟩ : ∃ B, B = wo.heap.size := ⟨_, rfl⟩
      have hown0 := own_lit0 wo wrB 2 1 (by omega)
      have HO := Lib.hid hO; clear hO
      have hdx : decide ((x : Int) < m.c) = true := by simp; omega
      go_wp2_with fail
      clear hxo
      go_loopw [11, 12] (fun ro i wn => ∃ k : Nat, k ≤ cuts.length ∧ i = .int .i64 (k : Int) ∧ wn.ownsRow wrB 2 1 ro (reasRow t cuts key door x k).length ((reasRow t cuts key door x k).map (Value.int .i64)) ∧ Below wrB wo wn) (fun _ i _ => cuts.length - (intOf i).toNat)
      case atStart => exact ⟨0, Nat.zero_le _, rfl, hown0, (Below.refl _ _).alloc (by omega) _⟩
      case round =>
        obtain ⟨k, hk2, rfl, hown, hBn⟩ := hrel
        have hrl := reasRow_len t cuts key door x k
        have hzn := hBn.size
        have hBW := hB.trans (hBn.mono (by omega))
        have hxb : ∀ o, wr.cell? ⟨W.heap.size, o, none⟩ = (#[.int .i64 m.c, .int .i64 m.d, .int .i64 m.s, .int .i64 m.e, .int .i64 m.l, .slice a t.length c] : Array Value)[o]? := fun o => by rw [(bcell hBW).1 _ _ hz01, Hc01.out]
        by_cases hkk : k < cuts.length
        · have hkt : k < t.length := by omega
          obtain ⟨b1, off1, a1, c1, rfl, _, hc1, hr1⟩ := (hC1.below hBW).cell hkk
          obtain ⟨b2, off2, a2, c2, rfl, _, hc2, hr2⟩ := (hV1.below hBW).cell hkt
          obtain ⟨b3, off3, rfl, _, hc3⟩ := hr2.cell (Hdd.out k hkt)
          have hxk2 : x < (getl cuts k).length := by rw [Hcc.out k hkk]; exact hxn
          have hxk1 : x < (getl cuts key).length := by rw [Hcc.out key hk]; exact hxn
          obtain ⟨b4, off4, rfl, _, hc4⟩ := hr1.cell hxk2
          obtain ⟨b5, off5, a5, c5, e5, _, hc5, hr5⟩ := (hC1.below hBW).cell hk
          simp only [Option.some.injEq, Addr.mk.injEq, and_true] at e5
          obtain ⟨rfl, rfl⟩ := e5
          obtain ⟨b6, off6, rfl, _, hc6⟩ := hr5.cell hxk1
          have hl2 := hr2.len
          have hl1 := hr1.len
          have hl5 := hr5.len
          have hdk := Hdd.out k hkt
          unfold maxLen at hl1 hl2 hl5
          by_cases h1 : geti (getl t k) door = 1
          · have e2 : (geti (getl t k) door == 1) = true := by simp [h1]
            by_cases h2 : geti (getl cuts k) x = geti (getl cuts key) x
            · have e3 : (geti (getl cuts k) x == geti (getl cuts key) x) = true := by simp [h2]
              have hst : reasRow t cuts key door x (k + 1) = reasRow t cuts key door x k ++ [(k : Int)] := by rw [reasRow, if_pos ⟨h1, h2⟩]
              have Hst := Lib.hid hst; clear hst
              have H1 := Lib.hid h1; clear h1
              have H2 := Lib.hid h2; clear h2
              go_wp2_with fail
              go_quiet (fail)
              have hown' : (wr.drewN nq).ownsRow wrB 2 1 u11 (reasRow t cuts key door x k).length ((reasRow t cuts key door x k).map (Value.int .i64)) := hown
              have hzq : wr.heap.size ≤ (wr.drewN nq).heap.size := Nat.le_refl _
              go_wp2_with (at_builtin; refine wp_app1 _ rfl _ _ 35 rfl wrB 2 (.int .i64 0) 8 Tryz.underlying35 inf_int rfl _ _ _ rfl hown' (.int .i64 k) _ rfl rfl (by omega) (by omega) (by omega) ?_; intro v1 w1 hown1 hgrow1 hblk1 hB1)
              go_roundw
              case rel => exact ⟨k + 1, by omega, by go_num, by rw [Hst.out, List.map_append, List.length_append]; exact hown1, (below_drewN hBn _).trans (hB1.mono (Nat.le_refl _))⟩
              case measure => simp [intOf]; omega
            · have e3 : (geti (getl cuts k) x == geti (getl cuts key) x) = false := by simp [h2]
              have hst : reasRow t cuts key door x (k + 1) = reasRow t cuts key door x k := by rw [reasRow, if_neg (fun h => h2 h.2)]
              have Hst := Lib.hid hst; clear hst
              have H1 := Lib.hid h1; clear h1
              have H2 := Lib.hid h2; clear h2
              go_wp2_with fail
              go_quiet (fail)
              go_wp2_with fail
              go_roundw
              case rel => exact ⟨k + 1, by omega, by go_num, by rw [Hst.out]; exact hown, below_drewN hBn _⟩
              case measure => simp [intOf]; omega
          · have e2 : (geti (getl t k) door == 1) = false := by simp [h1]
            have hst : reasRow t cuts key door x (k + 1) = reasRow t cuts key door x k := by rw [reasRow, if_neg (fun h => h1 h.1)]
            have Hst := Lib.hid hst; clear hst
            have H1 := Lib.hid h1; clear h1
            go_wp2_with fail
            go_quiet (fail)
            go_wp2_with fail
            go_roundw
            case rel => exact ⟨k + 1, by omega, by go_num, by rw [Hst.out]; exact hown, below_drewN hBn _⟩
            case measure => simp [intOf]; omega
        · obtain rfl : k = cuts.length := by omega
          obtain ⟨vs, bk, g1, g2, g3⟩ := HO.out
          have hBwo : Below wo.heap.size wo wr := hBn.mono (by omega)
          obtain ⟨bx1, hx1, hbx⟩ := own_F1 hown
          have hO4 := own_chg g1 (Chg.of_below (F := fun _ => False) hBwo) (fun _ _ h => h)
          obtain ⟨ra, rc, rfl, hrc1, hrc2⟩ := own_form hown
          have hlx := Nat.le_of_eq (reasRows_len t cuts key door x)
          have G := Lib.hid (And.intro g1 (And.intro g2 g3)); clear g1 g2 g3
          have Hx1 := Lib.hid (And.intro hx1 hbx); clear hx1 hbx hown hxb
          go_wp2_with (at_builtin; refine wp_app1 _ rfl _ _ 26 rfl W1.heap.size 35 (.slice none 0 0) 24 Tryz.underlying26 inf_ints rfl _ _ _ rfl hO4 (.slice ra (reasRow t cuts key door x cuts.length).length rc) _ rfl rfl (by omega) (by omega) (by omega) ?_; intro v1 w1 hown1 hgrow1 hblk1 hB1)
          go_roundw
          case rel => exact ⟨x + 1, by omega, by go_num, by rw [reasRows_succ]; exact Out2.push G.out.1 G.out.2.1 G.out.2.2 hzr hBwo Hx1.out.1 (fun hn => by have := Hx1.out.2 hn; omega) hown1 hgrow1 hblk1, (hB.trans (hBwo.mono hzr)).trans hB1⟩
          case measure => simp [intOf]; omega
    · obtain rfl : x = n := by omega
      have hfx := hO.f2
      go_wp2_with fail
      go_ret
      exact ⟨_, rfl, F2.mono hfx (by omega), hB01.trans (hB.mono (by omega))⟩
end Go.Proofs.YtikdbjaimcciiaaGreat

namespace Go.Proofs.YtikdbjaimcciiaaGreat
open Go.RowKit
set_option linter.unusedVariables false
set_option linter.unusedSimpArgs false

/-- The code of a system, partial cuts, a row and a door. -/
def reasC (m : Mk) (t cuts : List (List Int)) (key door : Int) : Int :=
  if partC m t cuts ≠ 0 then partC m t cuts else if (inB key 0 ((cuts.length : Int) - 1) && inB door 0 (((getl t 0).length : Int) - 1)) = false then 2 else if geti (getl t key.toNat) door.toNat = 1 then 5 else 0
theorem reasC_ok {m : Mk} {t cuts : List (List Int)} {key door : Int} (h : reasC m t cuts key door = 0) : partC m t cuts = 0 ∧ ∃ k d : Nat, key = k ∧ door = d ∧ k < cuts.length ∧ d < (getl t 0).length ∧ ¬ geti (getl t k) d = 1 := by
  unfold reasC at h
  split at h
  · rename_i h1; exact absurd h h1
  · rename_i h1
    split at h
    · cases h
    · rename_i h2
      split at h
      · cases h
      · rename_i h3
        simp only [Bool.not_eq_false, Bool.and_eq_true, inB_iff] at h2
        refine ⟨by omega, key.toNat, door.toNat, by omega, by omega, by omega, by omega, h3⟩

theorem l15Pair_any {S : Nat → Prop} (m : Mk) (u : Value) (t : List (List Int)) (key door : Int) (W : World) (h : V2 S W u t) (hrows : 1 ≤ t.length ∧ t.length ≤ 10) (hd : (getl t 0).length ≤ 12) :
    Calls Tryz.prog 210 #[.agg #[.int .i64 m.c, .int .i64 m.d, .int .i64 m.s, .int .i64 m.e, .int .i64 m.l, u], .int .i64 key, .int .i64 door] W fun e' w' => e' = .returned (.bool (inB key 0 ((t.length : Int) - 1) && inB door 0 (((getl t 0).length : Int) - 1))) ∧ Below W.heap.size W w' := by
  obtain ⟨a, c, rfl, hmx⟩ := h.form
  obtain ⟨b0, off0, a0, c0, rfl, _, hc0, hr0⟩ := h.cell (k := 0) (by omega)
  simp only [Nat.add_zero] at hc0
  have hcA : ∀ o1, (W.alloc o1).cell? ⟨b0, off0, none⟩ = some (.slice a0 (getl t 0).length c0) := fun o1 => cell_keep hc0 ((show Below W.heap.size W (W.alloc o1) from by go_grown).block _ (lt_of_cell hc0))
  clear hc0
  cases hi : inB key 0 ((t.length : Int) - 1)
  · have Hi := Lib.hid hi; clear hi
    go_enter Tryz.func210, Tryz.ntmps210
    go_wp2_with (go_at_call 102; refine (l01In_b _ _ _ _ _ Hi.out).mono ?_; rintro e' w' ⟨rfl, rfl⟩)
    go_ret
    exact ⟨rfl, by go_grown⟩
  · cases hj : inB door 0 (((getl t 0).length : Int) - 1)
    all_goals
      have Hi := Lib.hid hi; clear hi
      have Hj := Lib.hid hj; clear hj
      go_enter Tryz.func210, Tryz.ntmps210
      go_wp2_with (first | (go_at_call 102; (with_reducible refine (l01In_b _ _ _ _ _ Hi.out).mono ?_); rintro e' w' ⟨rfl, rfl⟩) | (go_at_call 102; (with_reducible refine (l01In_b _ _ _ _ _ Hj.out).mono ?_); rintro e' w' ⟨rfl, rfl⟩))
      go_ret
      exact ⟨rfl, by go_grown⟩

set_option maxRecDepth 100000 in
theorem reasonCode_any {S S' : Nat → Prop} (m : Mk) (u v : Value) (t cuts : List (List Int)) (key door : Int) (W : World) (h : V2 S W u t) (hc : V2 S' W v cuts) :
    Calls Tryz.prog 154 #[.agg #[.int .i64 m.c, .int .i64 m.d, .int .i64 m.s, .int .i64 m.e, .int .i64 m.l, u], v, .int .i64 key, .int .i64 door] W fun e' w' => e' = .returned (.int .i64 (reasC m t cuts key door)) ∧ Below W.heap.size W w' := by
  obtain ⟨a, c, rfl, hmx⟩ := h.form
  obtain ⟨a', c', rfl, hmx'⟩ := hc.form
  obtain ⟨W1, hW1, hB01, hz01, HZ01, hc01, hh01⟩ := box_facts W #[.int .i64 m.c, .int .i64 m.d, .int .i64 m.s, .int .i64 m.e, .int .i64 m.l, .slice a t.length c] 28
  have hV1 : V2 (fun _ => True) W1 (.slice a t.length c) t := (h.below hB01).mono (fun _ _ _ => trivial) (fun _ _ _ => rfl)
  have hC1 : V2 (fun _ => True) W1 (.slice a' cuts.length c') cuts := (hc.below hB01).mono (fun _ _ _ => trivial) (fun _ _ _ => rfl)
  have hpart := partCode_any m _ _ t cuts W1 hV1 hC1
  by_cases hp : partC m t cuts = 0
  · rw [hp] at hpart
    have hf := fits_of hp
    have hrows := hf.rows
    have hdoors := hf.doors
    have hfew := hf.few
    have Hpart := Lib.hid hpart; clear hpart
    cases hin : (inB key 0 ((cuts.length : Int) - 1) && inB door 0 (((getl t 0).length : Int) - 1))
    · have hfin : reasC m t cuts key door = 2 := by unfold reasC; rw [if_neg (by rw [hp]; decide), if_pos hin]
      rw [hfin]
      have Hp := Lib.hid hp; clear hp hfin
      clear hf
      cases hi : inB key 0 ((cuts.length : Int) - 1)
      · have Hi := Lib.hid hi; clear hi hin
        go_enter Tryz.func154, Tryz.ntmps154
        go_wp2_with fail
        rw [← hW1]
        refine Hpart.out.mono ?_
        rintro e' w2 ⟨rfl, hb2⟩
        clear hc01 hh01
        go_wp2_with (go_at_call 106; refine (within_b _ _ _ _ _ Hi.out).mono ?_; rintro e' w' ⟨rfl, rfl⟩)
        go_ret
        exact ⟨rfl, hB01.trans (hb2.mono (by omega))⟩
      · rw [hi, Bool.true_and] at hin
        obtain ⟨b0, off0, a0, c0, rfl, _, hc0, hr0⟩ := hV1.cell (k := 0) (by omega)
        simp only [Nat.add_zero] at hc0
        have hki := inB_iff.1 hi
        have hi2 : inB key 0 ((t.length : Int) - 1) = true := inB_iff.2 (by omega)
        have Hi := Lib.hid hi; clear hi
        have Hj := Lib.hid hin; clear hin
        have Hpair := Lib.hid (show (inB key 0 ((t.length : Int) - 1) && inB door 0 (((getl t 0).length : Int) - 1)) = false by rw [hi2, Hj.out]; rfl)
        clear hi2
        go_enter Tryz.func154, Tryz.ntmps154
        go_wp2_with fail
        rw [← hW1]
        refine Hpart.out.mono ?_
        rintro e' w2 ⟨rfl, hb2⟩
        have hx2 : ∀ o, w2.cell? ⟨W.heap.size, o, none⟩ = (#[.int .i64 m.c, .int .i64 m.d, .int .i64 m.s, .int .i64 m.e, .int .i64 m.l, .slice (some ⟨b0, off0, none⟩) t.length c] : Array Value)[o]? := fun o => by rw [(bcell hb2).1 _ _ hz01, hc01]
        have hcc2 : w2.cell? ⟨b0, off0, none⟩ = some (.slice a0 (getl t 0).length c0) := cell_keep hc0 (hb2.block _ (lt_of_cell hc0))
        clear hc01 hh01
        go_wp2_with (first | (go_at_call 106; (with_reducible refine (within_b _ _ _ _ _ Hi.out).mono ?_); rintro e' w' ⟨rfl, rfl⟩) | (go_at_call 106; (with_reducible refine (within_b _ _ _ _ _ Hj.out).mono ?_); rintro e' w' ⟨rfl, rfl⟩))
        go_ret
        exact ⟨rfl, hB01.trans (hb2.mono (by omega))⟩
    · obtain ⟨hi, hj⟩ : inB key 0 ((cuts.length : Int) - 1) = true ∧ inB door 0 (((getl t 0).length : Int) - 1) = true := by simpa using hin
      have hki := inB_iff.1 hi
      have hdi := inB_iff.1 hj
      obtain ⟨k, rfl⟩ : ∃ k : Nat, key = k := ⟨key.toNat, by omega⟩
      obtain ⟨d, rfl⟩ : ∃ d : Nat, door = d := ⟨door.toNat, by omega⟩
      have hkt : k < t.length := by omega
      have hi2 : inB (k : Int) 0 ((t.length : Int) - 1) = true := inB_iff.2 (by omega)
      have hdk : d < (getl t k).length := by rw [hf.cols k hkt]; omega
      clear hf
      obtain ⟨b0, off0, a0, c0, rfl, _, hc0, hr0⟩ := hV1.cell (k := 0) (by omega)
      obtain ⟨b1, off1, a1, c1, e1, _, hc1, hr1⟩ := hV1.cell hkt
      simp only [Option.some.injEq, Addr.mk.injEq, and_true] at e1
      obtain ⟨rfl, rfl⟩ := e1
      simp only [Nat.add_zero] at hc0
      obtain ⟨b2, off2, rfl, _, hcd⟩ := hr1.cell hdk
      have hl1 := hr1.len
      unfold maxLen at hl1
      have Hpair := Lib.hid (show (inB (k : Int) 0 ((t.length : Int) - 1) && inB (d : Int) 0 (((getl t 0).length : Int) - 1)) = true by rw [hi2, hj]; rfl)
      by_cases hbit : geti (getl t k) d = 1
      · have hfin : reasC m t cuts k d = 5 := by unfold reasC; rw [if_neg (by rw [hp]; decide), if_neg (by rw [hin]; decide), if_pos (by simpa using hbit)]
        have e2 : (geti (getl t k) d == 1) = true := by simp [hbit]
        rw [hfin]
        have Hp := Lib.hid hp; clear hp hfin hin hi2
        have Hbit := Lib.hid hbit; clear hbit
        have Hi := Lib.hid hi; clear hi
        have Hj := Lib.hid hj; clear hj
        go_enter Tryz.func154, Tryz.ntmps154
        go_wp2_with fail
        rw [← hW1]
        refine Hpart.out.mono ?_
        rintro e' w2 ⟨rfl, hb2⟩
        have hx2 : ∀ o, w2.cell? ⟨W.heap.size, o, none⟩ = (#[.int .i64 m.c, .int .i64 m.d, .int .i64 m.s, .int .i64 m.e, .int .i64 m.l, .slice (some ⟨b0, off0, none⟩) t.length c] : Array Value)[o]? := fun o => by rw [(bcell hb2).1 _ _ hz01, hc01]
        have hcc2 : w2.cell? ⟨b0, off0, none⟩ = some (.slice a0 (getl t 0).length c0) := cell_keep hc0 (hb2.block _ (lt_of_cell hc0))
        have hcc3 := cell_keep hc1 (hb2.block _ (lt_of_cell hc1))
        have hcc4 := cell_keep hcd (hb2.block _ (lt_of_cell hcd))
        clear hc01 hh01 hc0 hc1 hcd
        go_wp2_with (first | (go_at_call 106; (with_reducible refine (within_b _ _ _ _ _ Hi.out).mono ?_); rintro e' w' ⟨rfl, rfl⟩) | (go_at_call 106; (with_reducible refine (within_b _ _ _ _ _ Hj.out).mono ?_); rintro e' w' ⟨rfl, rfl⟩))
        go_ret
        exact ⟨rfl, hB01.trans (hb2.mono (by omega))⟩
      · have hfin : reasC m t cuts k d = 0 := by unfold reasC; rw [if_neg (by rw [hp]; decide), if_neg (by rw [hin]; decide), if_neg (by simpa using hbit)]
        have e2 : (geti (getl t k) d == 1) = false := by simp [hbit]
        rw [hfin]
        have Hp := Lib.hid hp; clear hp hfin hin hi2
        have Hbit := Lib.hid hbit; clear hbit
        have Hi := Lib.hid hi; clear hi
        have Hj := Lib.hid hj; clear hj
        go_enter Tryz.func154, Tryz.ntmps154
        go_wp2_with fail
        rw [← hW1]
        refine Hpart.out.mono ?_
        rintro e' w2 ⟨rfl, hb2⟩
        have hx2 : ∀ o, w2.cell? ⟨W.heap.size, o, none⟩ = (#[.int .i64 m.c, .int .i64 m.d, .int .i64 m.s, .int .i64 m.e, .int .i64 m.l, .slice (some ⟨b0, off0, none⟩) t.length c] : Array Value)[o]? := fun o => by rw [(bcell hb2).1 _ _ hz01, hc01]
        have hcc2 : w2.cell? ⟨b0, off0, none⟩ = some (.slice a0 (getl t 0).length c0) := cell_keep hc0 (hb2.block _ (lt_of_cell hc0))
        have hcc3 := cell_keep hc1 (hb2.block _ (lt_of_cell hc1))
        have hcc4 := cell_keep hcd (hb2.block _ (lt_of_cell hcd))
        clear hc01 hh01 hc0 hc1 hcd
        go_wp2_with (first | (go_at_call 106; (with_reducible refine (within_b _ _ _ _ _ Hi.out).mono ?_); rintro e' w' ⟨rfl, rfl⟩) | (go_at_call 106; (with_reducible refine (within_b _ _ _ _ _ Hj.out).mono ?_); rintro e' w' ⟨rfl, rfl⟩))
        go_ret
        exact ⟨rfl, hB01.trans (hb2.mono (by omega))⟩
  · have hfin : reasC m t cuts key door = partC m t cuts := by unfold reasC; rw [if_pos hp]
    have e1 : (partC m t cuts != 0) = true := by simp [hp]
    rw [hfin]
    have Hp := Lib.hid hp; clear hp hfin
    generalize partC m t cuts = pc at *
    go_enter Tryz.func154, Tryz.ntmps154
    go_wp2_with fail
    rw [← hW1]
    refine hpart.mono ?_
    rintro e' w2 ⟨rfl, hb2⟩
    clear hc01 hh01
    go_wp2_with fail
    go_ret
    exact ⟨rfl, hB01.trans (hb2.mono (by omega))⟩
set_option maxRecDepth 100000 in
theorem l18Code_any {S S' : Nat → Prop} (m : Mk) (u v : Value) (t cuts : List (List Int)) (key door : Int) (W : World) (h : V2 S W u t) (hc : V2 S' W v cuts) :
    Calls Tryz.prog 158 #[.agg #[.int .i64 m.c, .int .i64 m.d, .int .i64 m.s, .int .i64 m.e, .int .i64 m.l, u], v, .int .i64 key, .int .i64 door] W fun e' w' => e' = .returned (.int .i64 (reasC m t cuts key door)) ∧ Below W.heap.size W w' := by
  obtain ⟨a, c, rfl, hmx⟩ := h.form
  obtain ⟨a', c', rfl, hmx'⟩ := hc.form
  obtain ⟨W1, hW1, hB01, hz01, HZ01, hc01, hh01⟩ := box_facts W #[.int .i64 m.c, .int .i64 m.d, .int .i64 m.s, .int .i64 m.e, .int .i64 m.l, .slice a t.length c] 28
  have hV1 : V2 (fun _ => True) W1 (.slice a t.length c) t := (h.below hB01).mono (fun _ _ _ => trivial) (fun _ _ _ => rfl)
  have hC1 : V2 (fun _ => True) W1 (.slice a' cuts.length c') cuts := (hc.below hB01).mono (fun _ _ _ => trivial) (fun _ _ _ => rfl)
  have hpart := l16Code_any m _ _ t cuts W1 hV1 hC1
  by_cases hp : partC m t cuts = 0
  · rw [hp] at hpart
    have hf := fits_of hp
    have hrows := hf.rows
    have hdoors := hf.doors
    have hfew := hf.few
    have Hpart := Lib.hid hpart; clear hpart
    cases hin : (inB key 0 ((cuts.length : Int) - 1) && inB door 0 (((getl t 0).length : Int) - 1))
    · have hfin : reasC m t cuts key door = 2 := by unfold reasC; rw [if_neg (by rw [hp]; decide), if_pos hin]
      rw [hfin]
      have Hp := Lib.hid hp; clear hp hfin
      clear hf
      cases hi : inB key 0 ((cuts.length : Int) - 1)
      · have Hi := Lib.hid hi; clear hi hin
        go_enter Tryz.func158, Tryz.ntmps158
        go_wp2_with fail
        rw [← hW1]
        refine Hpart.out.mono ?_
        rintro e' w2 ⟨rfl, hb2⟩
        clear hc01 hh01
        go_wp2_with (go_at_call 102; refine (l01In_b _ _ _ _ _ Hi.out).mono ?_; rintro e' w' ⟨rfl, rfl⟩)
        go_ret
        exact ⟨rfl, hB01.trans (hb2.mono (by omega))⟩
      · rw [hi, Bool.true_and] at hin
        obtain ⟨b0, off0, a0, c0, rfl, _, hc0, hr0⟩ := hV1.cell (k := 0) (by omega)
        simp only [Nat.add_zero] at hc0
        have hki := inB_iff.1 hi
        have hi2 : inB key 0 ((t.length : Int) - 1) = true := inB_iff.2 (by omega)
        have Hi := Lib.hid hi; clear hi
        have Hj := Lib.hid hin; clear hin
        have Hpair := Lib.hid (show (inB key 0 ((t.length : Int) - 1) && inB door 0 (((getl t 0).length : Int) - 1)) = false by rw [hi2, Hj.out]; rfl)
        clear hi2
        go_enter Tryz.func158, Tryz.ntmps158
        go_wp2_with fail
        rw [← hW1]
        refine Hpart.out.mono ?_
        rintro e' w2 ⟨rfl, hb2⟩
        have hx2 : ∀ o, w2.cell? ⟨W.heap.size, o, none⟩ = (#[.int .i64 m.c, .int .i64 m.d, .int .i64 m.s, .int .i64 m.e, .int .i64 m.l, .slice (some ⟨b0, off0, none⟩) t.length c] : Array Value)[o]? := fun o => by rw [(bcell hb2).1 _ _ hz01, hc01]
        have hcc2 : w2.cell? ⟨b0, off0, none⟩ = some (.slice a0 (getl t 0).length c0) := cell_keep hc0 (hb2.block _ (lt_of_cell hc0))
        clear hc01 hh01
        go_wp2_with (first | (go_at_call 102; (with_reducible refine (l01In_b _ _ _ _ _ Hi.out).mono ?_); rintro e' w' ⟨rfl, rfl⟩) | (go_at_call 210; refine (l15Pair_any m _ t _ _ _ (hV1.below hb2) hrows hdoors.2).mono ?_; rintro e' w3 ⟨rfl, hb3⟩; rw [Hpair.out]))
        go_ret
        exact ⟨rfl, hB01.trans ((hb2.trans (hb3.mono hb2.size)).mono (by omega))⟩
    · obtain ⟨hi, hj⟩ : inB key 0 ((cuts.length : Int) - 1) = true ∧ inB door 0 (((getl t 0).length : Int) - 1) = true := by simpa using hin
      have hki := inB_iff.1 hi
      have hdi := inB_iff.1 hj
      obtain ⟨k, rfl⟩ : ∃ k : Nat, key = k := ⟨key.toNat, by omega⟩
      obtain ⟨d, rfl⟩ : ∃ d : Nat, door = d := ⟨door.toNat, by omega⟩
      have hkt : k < t.length := by omega
      have hi2 : inB (k : Int) 0 ((t.length : Int) - 1) = true := inB_iff.2 (by omega)
      have hdk : d < (getl t k).length := by rw [hf.cols k hkt]; omega
      clear hf
      obtain ⟨b0, off0, a0, c0, rfl, _, hc0, hr0⟩ := hV1.cell (k := 0) (by omega)
      obtain ⟨b1, off1, a1, c1, e1, _, hc1, hr1⟩ := hV1.cell hkt
      simp only [Option.some.injEq, Addr.mk.injEq, and_true] at e1
      obtain ⟨rfl, rfl⟩ := e1
      simp only [Nat.add_zero] at hc0
      obtain ⟨b2, off2, rfl, _, hcd⟩ := hr1.cell hdk
      have hl1 := hr1.len
      unfold maxLen at hl1
      have Hpair := Lib.hid (show (inB (k : Int) 0 ((t.length : Int) - 1) && inB (d : Int) 0 (((getl t 0).length : Int) - 1)) = true by rw [hi2, hj]; rfl)
      by_cases hbit : geti (getl t k) d = 1
      · have hfin : reasC m t cuts k d = 5 := by unfold reasC; rw [if_neg (by rw [hp]; decide), if_neg (by rw [hin]; decide), if_pos (by simpa using hbit)]
        have e2 : (geti (getl t k) d == 1) = true := by simp [hbit]
        rw [hfin]
        have Hp := Lib.hid hp; clear hp hfin hin hi2
        have Hbit := Lib.hid hbit; clear hbit
        have Hi := Lib.hid hi; clear hi
        have Hj := Lib.hid hj; clear hj
        go_enter Tryz.func158, Tryz.ntmps158
        go_wp2_with fail
        rw [← hW1]
        refine Hpart.out.mono ?_
        rintro e' w2 ⟨rfl, hb2⟩
        have hx2 : ∀ o, w2.cell? ⟨W.heap.size, o, none⟩ = (#[.int .i64 m.c, .int .i64 m.d, .int .i64 m.s, .int .i64 m.e, .int .i64 m.l, .slice (some ⟨b0, off0, none⟩) t.length c] : Array Value)[o]? := fun o => by rw [(bcell hb2).1 _ _ hz01, hc01]
        have hcc2 : w2.cell? ⟨b0, off0, none⟩ = some (.slice a0 (getl t 0).length c0) := cell_keep hc0 (hb2.block _ (lt_of_cell hc0))
        have hcc3 := cell_keep hc1 (hb2.block _ (lt_of_cell hc1))
        have hcc4 := cell_keep hcd (hb2.block _ (lt_of_cell hcd))
        clear hc01 hh01 hc0 hc1 hcd
        go_wp2_with (first | (go_at_call 102; (with_reducible refine (l01In_b _ _ _ _ _ Hi.out).mono ?_); rintro e' w' ⟨rfl, rfl⟩) | (go_at_call 210; refine (l15Pair_any m _ t _ _ _ (hV1.below hb2) hrows hdoors.2).mono ?_; rintro e' w3 ⟨rfl, hb3⟩; rw [Hpair.out]; have hx3 : ∀ o, w3.cell? ⟨W.heap.size, o, none⟩ = (#[.int .i64 m.c, .int .i64 m.d, .int .i64 m.s, .int .i64 m.e, .int .i64 m.l, .slice (some ⟨b0, off0, none⟩) t.length c] : Array Value)[o]? := (fun o => by rw [(bcell hb3).1 _ _ (by have := hb2.size; omega), hx2]); have hcd3 := cell_keep hcc3 (hb3.block _ (lt_of_cell hcc3)); have hcd4 := cell_keep hcc4 (hb3.block _ (lt_of_cell hcc4))))
        go_ret
        exact ⟨rfl, hB01.trans ((hb2.trans (hb3.mono hb2.size)).mono (by omega))⟩
      · have hfin : reasC m t cuts k d = 0 := by unfold reasC; rw [if_neg (by rw [hp]; decide), if_neg (by rw [hin]; decide), if_neg (by simpa using hbit)]
        have e2 : (geti (getl t k) d == 1) = false := by simp [hbit]
        rw [hfin]
        have Hp := Lib.hid hp; clear hp hfin hin hi2
        have Hbit := Lib.hid hbit; clear hbit
        have Hi := Lib.hid hi; clear hi
        have Hj := Lib.hid hj; clear hj
        go_enter Tryz.func158, Tryz.ntmps158
        go_wp2_with fail
        rw [← hW1]
        refine Hpart.out.mono ?_
        rintro e' w2 ⟨rfl, hb2⟩
        have hx2 : ∀ o, w2.cell? ⟨W.heap.size, o, none⟩ = (#[.int .i64 m.c, .int .i64 m.d, .int .i64 m.s, .int .i64 m.e, .int .i64 m.l, .slice (some ⟨b0, off0, none⟩) t.length c] : Array Value)[o]? := fun o => by rw [(bcell hb2).1 _ _ hz01, hc01]
        have hcc2 : w2.cell? ⟨b0, off0, none⟩ = some (.slice a0 (getl t 0).length c0) := cell_keep hc0 (hb2.block _ (lt_of_cell hc0))
        have hcc3 := cell_keep hc1 (hb2.block _ (lt_of_cell hc1))
        have hcc4 := cell_keep hcd (hb2.block _ (lt_of_cell hcd))
        clear hc01 hh01 hc0 hc1 hcd
        go_wp2_with (first | (go_at_call 102; (with_reducible refine (l01In_b _ _ _ _ _ Hi.out).mono ?_); rintro e' w' ⟨rfl, rfl⟩) | (go_at_call 210; refine (l15Pair_any m _ t _ _ _ (hV1.below hb2) hrows hdoors.2).mono ?_; rintro e' w3 ⟨rfl, hb3⟩; rw [Hpair.out]; have hx3 : ∀ o, w3.cell? ⟨W.heap.size, o, none⟩ = (#[.int .i64 m.c, .int .i64 m.d, .int .i64 m.s, .int .i64 m.e, .int .i64 m.l, .slice (some ⟨b0, off0, none⟩) t.length c] : Array Value)[o]? := (fun o => by rw [(bcell hb3).1 _ _ (by have := hb2.size; omega), hx2]); have hcd3 := cell_keep hcc3 (hb3.block _ (lt_of_cell hcc3)); have hcd4 := cell_keep hcc4 (hb3.block _ (lt_of_cell hcc4))))
        go_ret
        exact ⟨rfl, hB01.trans ((hb2.trans (hb3.mono hb2.size)).mono (by omega))⟩
  · have hfin : reasC m t cuts key door = partC m t cuts := by unfold reasC; rw [if_pos hp]
    have e1 : (partC m t cuts != 0) = true := by simp [hp]
    rw [hfin]
    have Hp := Lib.hid hp; clear hp hfin
    generalize partC m t cuts = pc at *
    go_enter Tryz.func158, Tryz.ntmps158
    go_wp2_with fail
    rw [← hW1]
    refine hpart.mono ?_
    rintro e' w2 ⟨rfl, hb2⟩
    clear hc01 hh01
    go_wp2_with fail
    go_ret
    exact ⟨rfl, hB01.trans (hb2.mono (by omega))⟩
end Go.Proofs.YtikdbjaimcciiaaGreat

namespace Go.Proofs.YtikdbjaimcciiaaGreat
open Go.RowKit
set_option linter.unusedVariables false
set_option linter.unusedSimpArgs false

def prodTo (ls : List (List Int)) : Nat → Nat
  | 0 => 1
  | k + 1 => prodTo ls k * (getl ls k).length
theorem prodTo_le {ls : List (List Int)} (h : ∀ k, k < ls.length → (getl ls k).length ≤ 10) : ∀ k, k ≤ ls.length → prodTo ls k ≤ 10 ^ k
  | 0, _ => Nat.le_refl _
  | k + 1, hk => by
    unfold prodTo
    rw [Nat.pow_succ]
    exact Nat.mul_le_mul (prodTo_le h k (by omega)) (h k (by omega))
theorem prodTo_small {ls : List (List Int)} (h : ∀ k, k < ls.length → (getl ls k).length ≤ 10) (hl : ls.length ≤ 6) {k : Nat} (hk : k ≤ ls.length) : prodTo ls k ≤ 1000000 :=
  Nat.le_trans (prodTo_le h k hk) (Nat.le_trans (Nat.pow_le_pow_right (by decide) (by omega : k ≤ 6)) (by decide))
theorem reasRows_small {t cuts : List (List Int)} {key door n : Nat} (hc : cuts.length ≤ 10) : ∀ k, k < (reasRows t cuts key door n).length → (getl (reasRows t cuts key door n) k).length ≤ 10 := fun k hk => by
  rw [reasRows_len] at hk
  rw [reasRows_get hk]
  exact Nat.le_trans (reasRow_len _ _ _ _ _ _) hc

def cntReasAns (m : Mk) (t cuts : List (List Int)) (key door : Int) : Int × Int :=
  if reasC m t cuts key door ≠ 0 then (0, reasC m t cuts key door) else ((prodTo (reasRows t cuts key.toNat door.toNat m.c.toNat) m.c.toNat : Nat), 0)

theorem l18Number_any {S : Nat → Prop} (v : Value) (ls : List (List Int)) (W : World) (h : V2 S W v ls) (hs : ∀ k, k < ls.length → (getl ls k).length ≤ 10) (hl : ls.length ≤ 6) :
    Calls Tryz.prog 159 #[v] W fun e' w' => e' = .returned (.int .i64 (prodTo ls ls.length)) ∧ W = w' := by
  have hV := h
  obtain ⟨a, c, rfl, hmx⟩ := h.form
  have Hs := Lib.hid hs; clear hs
  go_enter Tryz.func159, Tryz.ntmps159
  go_wp2_with fail
  go_loop [3, 4] (fun s i => ∃ k : Nat, k ≤ ls.length ∧ i = .int .i64 (k : Int) ∧ s = .int .i64 (prodTo ls k : Int)) (fun _ i => ls.length - (intOf i).toNat)
  case atStart => exact ⟨0, Nat.zero_le _, rfl, rfl⟩
  case round =>
    obtain ⟨k, hk, rfl, rfl⟩ := hrel
    by_cases hkk : k < ls.length
    · obtain ⟨b1, off1, a1, c1, rfl, _, hc1, hr1⟩ := hV.cell hkk
      have hp1 := prodTo_small Hs.out hl (show k + 1 ≤ ls.length by omega)
      have hst : ((prodTo ls k : Nat) : Int) * ((getl ls k).length : Int) = ((prodTo ls (k + 1) : Nat) : Int) := by rw [prodTo]; push_cast; rfl
      have hw : wrap64 (((prodTo ls k : Nat) : Int) * ((getl ls k).length : Int)) = ((prodTo ls (k + 1) : Nat) : Int) := by rw [hst]; exact IntWalk.wrap64_in _ ⟨by omega, by omega⟩
      have Hw := Lib.hid hw; clear hw hst
      go_wp2_with fail
      go_round
      case rel => exact ⟨k + 1, by omega, by go_num, by rw [Hw.out]⟩
      case measure => simp [intOf]; omega
    · obtain rfl : k = ls.length := by omega
      go_wp2_with fail
      go_ret
      exact ⟨rfl, rfl⟩

set_option maxRecDepth 100000 in
theorem CountReasons_any {S S' : Nat → Prop} (m : Mk) (u v : Value) (t cuts : List (List Int)) (key door : Int) (W : World) (h : V2 S W u t) (hc : V2 S' W v cuts) :
    Calls Tryz.prog 70 #[.agg #[.int .i64 m.c, .int .i64 m.d, .int .i64 m.s, .int .i64 m.e, .int .i64 m.l, u], v, .int .i64 key, .int .i64 door] W fun e' w' => e' = .returned (.tuple #[.int .i64 (cntReasAns m t cuts key door).1, .int .i64 (cntReasAns m t cuts key door).2]) ∧ Below W.heap.size W w' := by
  obtain ⟨a, c, rfl, hmx⟩ := h.form
  obtain ⟨a', c', rfl, hmx'⟩ := hc.form
  obtain ⟨W1, hW1, hB01, hz01, HZ01, hc01, hh01⟩ := box_facts W #[.int .i64 m.c, .int .i64 m.d, .int .i64 m.s, .int .i64 m.e, .int .i64 m.l, .slice a t.length c] 28
  have hV1 : V2 (fun _ => True) W1 (.slice a t.length c) t := (h.below hB01).mono (fun _ _ _ => trivial) (fun _ _ _ => rfl)
  have hC1 : V2 (fun _ => True) W1 (.slice a' cuts.length c') cuts := (hc.below hB01).mono (fun _ _ _ => trivial) (fun _ _ _ => rfl)
  have hpart := reasonCode_any m _ _ t cuts key door W1 hV1 hC1
  by_cases hp : reasC m t cuts key door = 0
  · rw [hp] at hpart
    have hfin : cntReasAns m t cuts key door = (((prodTo (reasRows t cuts key.toNat door.toNat m.c.toNat) m.c.toNat : Nat) : Int), 0) := by unfold cntReasAns; rw [if_neg (by rw [hp]; decide)]
    rw [hfin]
    obtain ⟨hpc, k, d, rfl, rfl, hk, hd, _⟩ := reasC_ok hp
    have hf := fits_of hpc
    have hmk := Mk.ok_iff.1 hf.ok
    simp only [Int.toNat_natCast]
    obtain ⟨n, hn, hn6, hn0⟩ : ∃ n : Nat, m.c.toNat = n ∧ n ≤ 6 ∧ (n : Int) = m.c := ⟨_, rfl, by omega, by omega⟩
    rw [hn]
    have hsm := reasRows_small (t := t) (key := k) (door := d) (n := n) (show cuts.length ≤ 10 by have := hf.few; have := hf.rows; omega)
    have hlen := reasRows_len t cuts k d n
    have Hn := Lib.hid (And.intro hn hn0); clear hn hn0 hfin hp hpc hmk
    have Hf := Lib.hid hf; clear hf
    generalize hR : reasRows t cuts k d n = R at *
    have HR := Lib.hid hR; clear hR
    have Hsm := Lib.hid hsm; clear hsm
    have Hlen := Lib.hid hlen
    have hlR : R.length ≤ 6 := by omega
    have hlR2 : R.length ≤ n := by omega
    have hlR3 : n ≤ R.length := by omega
    clear hlen
    go_enter Tryz.func70, Tryz.ntmps70
    go_wp2_with fail
    rw [← hW1]
    refine hpart.mono ?_
    rintro e' w2 ⟨rfl, hb2⟩
    have hx2 : ∀ o, w2.cell? ⟨W.heap.size, o, none⟩ = (#[.int .i64 m.c, .int .i64 m.d, .int .i64 m.s, .int .i64 m.e, .int .i64 m.l, .slice a t.length c] : Array Value)[o]? := fun o => by rw [(bcell hb2).1 _ _ hz01, hc01]
    clear hc01 hh01
    have HW1 := Lib.hid hW1; clear hW1
    go_wp2_with fail
    refine (reasonRows_any m _ _ t cuts k d n _ Hf.out hk hd Hn.out.2 (hV1.below hb2) (hC1.below hb2)).mono ?_
    rintro e' w3 ⟨v3, rfl, hF, hb3⟩
    rw [HR.out] at hF
    obtain ⟨a3, c3, rfl, hl3⟩ := hF.v2.form
    clear hx2
    go_wp2_with fail
    go_loop [11, 13, 28] (fun s _ i => ∃ j : Nat, j ≤ R.length ∧ i = .int .i64 (j : Int) ∧ s = .int .i64 (prodTo R j : Int)) (fun _ _ i => R.length - (intOf i).toNat)
    case atStart => exact ⟨0, Nat.zero_le _, rfl, rfl⟩
    case round =>
      obtain ⟨j, hj, rfl, rfl⟩ := hrel
      by_cases hjj : j < R.length
      · obtain ⟨b1, off1, a1, c1, rfl, _, hc1, hr1⟩ := hF.v2.cell hjj
        have hp1 := prodTo_small Hsm.out hlR (show j + 1 ≤ R.length by omega)
        have hst : ((prodTo R j : Nat) : Int) * ((getl R j).length : Int) = ((prodTo R (j + 1) : Nat) : Int) := by rw [prodTo]; push_cast; rfl
        have hw : wrap64 (((prodTo R j : Nat) : Int) * ((getl R j).length : Int)) = ((prodTo R (j + 1) : Nat) : Int) := by rw [hst]; exact IntWalk.wrap64_in _ ⟨by omega, by omega⟩
        have Hw := Lib.hid hw; clear hw hst
        go_wp2_with fail
        go_round
        case rel => exact ⟨j + 1, by omega, by go_num, by rw [Hw.out]⟩
        case measure => simp [intOf]; omega
      · have hjn : j = n := by omega
        have Hjn := Lib.hid hjn; clear hjn
        go_wp2_with fail
        go_ret2
        exact ⟨by rw [Hjn.out]; rfl, hB01.trans ((hb2.trans (hb3.mono hb2.size)).mono (by omega))⟩
  · have hfin : cntReasAns m t cuts key door = (0, reasC m t cuts key door) := by unfold cntReasAns; rw [if_pos hp]
    have e1 : (reasC m t cuts key door != 0) = true := by simp [hp]
    rw [hfin]
    have Hp := Lib.hid hp; clear hp hfin
    generalize reasC m t cuts key door = pc at *
    go_enter Tryz.func70, Tryz.ntmps70
    go_wp2_with fail
    rw [← hW1]
    refine hpart.mono ?_
    rintro e' w2 ⟨rfl, hb2⟩
    clear hc01 hh01
    go_wp2_with fail
    go_ret2
    exact ⟨rfl, hB01.trans (hb2.mono (by omega))⟩
set_option maxRecDepth 100000 in
theorem CountReasonsR_any {S S' : Nat → Prop} (m : Mk) (u v : Value) (t cuts : List (List Int)) (key door : Int) (W : World) (h : V2 S W u t) (hc : V2 S' W v cuts) :
    Calls Tryz.prog 71 #[.agg #[.int .i64 m.c, .int .i64 m.d, .int .i64 m.s, .int .i64 m.e, .int .i64 m.l, u], v, .int .i64 key, .int .i64 door] W fun e' w' => e' = .returned (.tuple #[.int .i64 (cntReasAns m t cuts key door).1, .int .i64 (cntReasAns m t cuts key door).2]) ∧ Below W.heap.size W w' := by
  obtain ⟨a, c, rfl, hmx⟩ := h.form
  obtain ⟨a', c', rfl, hmx'⟩ := hc.form
  obtain ⟨W1, hW1, hB01, hz01, HZ01, hc01, hh01⟩ := box_facts W #[.int .i64 m.c, .int .i64 m.d, .int .i64 m.s, .int .i64 m.e, .int .i64 m.l, .slice a t.length c] 28
  have hV1 : V2 (fun _ => True) W1 (.slice a t.length c) t := (h.below hB01).mono (fun _ _ _ => trivial) (fun _ _ _ => rfl)
  have hC1 : V2 (fun _ => True) W1 (.slice a' cuts.length c') cuts := (hc.below hB01).mono (fun _ _ _ => trivial) (fun _ _ _ => rfl)
  have hpart := l18Code_any m _ _ t cuts key door W1 hV1 hC1
  by_cases hp : reasC m t cuts key door = 0
  · rw [hp] at hpart
    have hfin : cntReasAns m t cuts key door = (((prodTo (reasRows t cuts key.toNat door.toNat m.c.toNat) m.c.toNat : Nat) : Int), 0) := by unfold cntReasAns; rw [if_neg (by rw [hp]; decide)]
    rw [hfin]
    obtain ⟨hpc, k, d, rfl, rfl, hk, hd, _⟩ := reasC_ok hp
    have hf := fits_of hpc
    have hmk := Mk.ok_iff.1 hf.ok
    simp only [Int.toNat_natCast]
    obtain ⟨n, hn, hn6, hn0⟩ : ∃ n : Nat, m.c.toNat = n ∧ n ≤ 6 ∧ (n : Int) = m.c := ⟨_, rfl, by omega, by omega⟩
    rw [hn]
    have hsm := reasRows_small (t := t) (key := k) (door := d) (n := n) (show cuts.length ≤ 10 by have := hf.few; have := hf.rows; omega)
    have hlen := reasRows_len t cuts k d n
    have Hn := Lib.hid (And.intro hn hn0); clear hn hn0 hfin hp hpc hmk
    have Hf := Lib.hid hf; clear hf
    have Hsm := Lib.hid hsm; clear hsm
    have Hlen := Lib.hid hlen; clear hlen
    go_enter Tryz.func71, Tryz.ntmps71
    go_wp2_with fail
    rw [← hW1]
    refine hpart.mono ?_
    rintro e' w2 ⟨rfl, hb2⟩
    have hx2 : ∀ o, w2.cell? ⟨W.heap.size, o, none⟩ = (#[.int .i64 m.c, .int .i64 m.d, .int .i64 m.s, .int .i64 m.e, .int .i64 m.l, .slice a t.length c] : Array Value)[o]? := fun o => by rw [(bcell hb2).1 _ _ hz01, hc01]
    clear hc01 hh01
    have HW1 := Lib.hid hW1; clear hW1
    go_wp2_with fail
    refine (l18Rows_any m _ _ t cuts k d n _ Hf.out hk hd Hn.out.2 (hV1.below hb2) (hC1.below hb2)).mono ?_
    rintro e' w3 ⟨v3, rfl, hF, hb3⟩
    clear hx2
    go_wp2_with fail
    refine (l18Number_any _ _ _ hF.v2 Hsm.out (by rw [Hlen.out]; exact hn6)).mono ?_
    rintro e' w4 ⟨rfl, rfl⟩
    rw [Hlen.out]
    go_wp2_with fail
    go_ret2
    exact ⟨rfl, hB01.trans ((hb2.trans (hb3.mono hb2.size)).mono (by omega))⟩
  · have hfin : cntReasAns m t cuts key door = (0, reasC m t cuts key door) := by unfold cntReasAns; rw [if_pos hp]
    have e1 : (reasC m t cuts key door != 0) = true := by simp [hp]
    rw [hfin]
    have Hp := Lib.hid hp; clear hp hfin
    generalize reasC m t cuts key door = pc at *
    go_enter Tryz.func71, Tryz.ntmps71
    go_wp2_with fail
    rw [← hW1]
    refine hpart.mono ?_
    rintro e' w2 ⟨rfl, hb2⟩
    clear hc01 hh01
    go_wp2_with fail
    go_ret2
    exact ⟨rfl, hB01.trans (hb2.mono (by omega))⟩
end Go.Proofs.YtikdbjaimcciiaaGreat
