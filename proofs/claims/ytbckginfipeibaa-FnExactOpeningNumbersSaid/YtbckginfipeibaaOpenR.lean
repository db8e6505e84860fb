/- How many keys open so many doors: as the reference counts them. No conditions. -/
import Derived.Test.YtbckginfipeibaaSum
namespace Go.Proofs.Ytbckginfipeibaa
open Go.RowKit
set_option linter.unusedVariables false
set_option linter.unusedSimpArgs false

theorem doorsTo_step (locks : List (List (List Int))) (key : List Int) (k : Nat) : (doorsTo locks key (k + 1)).length = if opensB (getll locks k) key = true then (doorsTo locks key k).length + 1 else (doorsTo locks key k).length := by
  rw [doorsTo]; split <;> simp
set_option maxRecDepth 100000 in
set_option maxHeartbeats 4000000 in
theorem l21Numbers_any {S S' : Nat → Prop} (m : Mk) (u v : Value) (t cuts : List (List Int)) (n : Nat) (W : World) (hf : Fits m t cuts) (hn : (n : Int) = m.c) (h : V2 S W u t) (hc : V2 S' W v cuts) :
    Calls Try.prog 54 #[.agg #[.int .i64 m.c, .int .i64 m.d, .int .i64 m.s, .int .i64 m.e, .int .i64 m.l, u], v] W fun e' w' => ∃ G : Nat, e' = .returned (.slice (some ⟨G, 0, none⟩) ((getl t 0).length + 1) ((getl t 0).length + 1)) ∧ W.heap.size ≤ G ∧
      BlkI w' G (cntL (locksTo n t cuts (getl t 0).length) (keysOf m) 0 ((getl t 0).length + 1)) ∧ Below W.heap.size W w' := by
  obtain ⟨a, c, rfl, hmx⟩ := h.form
  obtain ⟨a', c', rfl, hmx'⟩ := hc.form
  have hrows := hf.rows
  have hdoors := hf.doors
  have hok := hf.ok
  have hkl := keysOf_length hok
  have hmk := Mk.ok_iff.1 hok
  have hc0 : 0 ≤ m.c := by omega
  have hkey : ∀ k, k ∈ keysOf m → k.length = n ∧ (k.length : Int) = m.c ∧ ∀ i, i < k.length → 0 ≤ geti k i ∧ geti k i ≤ 7 := fun k hk => by
    have h1 := isKey_iff.1 ((mem_keysOf hc0).1 hk)
    refine ⟨by omega, h1.1, fun i hi => ?_⟩
    have := h1.2.1 _ (geti_mem hi)
    omega
  obtain ⟨W1, hW1, hB01, hz01, HZ01, hc01, hh01⟩ := box_facts W #[.int .i64 m.c, .int .i64 m.d, .int .i64 m.s, .int .i64 m.e, .int .i64 m.l, .slice a t.length c] 34
  have hV1 := (h.below hB01).old
  have hC1 := (hc.below hB01).old
  obtain ⟨b0, off0, a0, c0, rfl, _, hcc0, hr0⟩ := h.cell (k := 0) (by omega)
  simp only [Nat.add_zero] at hcc0
  have hlocksF := fun (w : World) (hv : V2 (fun _ => True) w (.slice (some ⟨b0, off0, none⟩) t.length c) t) (hc : V2 (fun _ => True) w (.slice a' cuts.length c') cuts) => l15Locks_any m _ _ t cuts n w hf hn hv hc
  have hfirst := l02First_any m hok m.c.toNat (fun _ => False) (.slice none 0 0) []
  rw [genB_nil] at hfirst
  have hcc : ((m.c.toNat : Nat) : Int) = m.c := by omega
  obtain ⟨locks, hlocks⟩ : ∃ x, x = locksTo n t cuts (getl t 0).length := ⟨_, rfl⟩
  obtain ⟨D, hD⟩ : ∃ D, (getl t 0).length = D := ⟨_, rfl⟩
  have hll : locks.length = D := by rw [hlocks, locksTo_len, hD]
  have hlk : ∀ k, k < locks.length → (getll locks k).length = n := fun k hk => by rw [hlocks]; rw [hlocks, locksTo_len] at hk; exact lock_len hk
  rw [← hlocks] at hlocksF ⊢
  rw [hD] at hcc0 hdoors ⊢
  have hcA : ∀ o1, (W.alloc o1).cell? ⟨b0, off0, none⟩ = some (.slice a0 D c0) := fun o1 => cell_keep hcc0 ((show Below W.heap.size W (W.alloc o1) from by go_grown).block _ (lt_of_cell hcc0))
  have Hfirst := Lib.hid (And.intro hfirst hcc); clear hfirst hcc
  have Hkey := Lib.hid (And.intro hkey hkl); clear hkey hkl hmk
  have Hlk := Lib.hid (And.intro hlk (And.intro hlocksF hlocks)); clear hlk hlocksF hlocks
  have Hf := Lib.hid (And.intro hf (And.intro hn (And.intro hok (And.intro hc0 hD)))); clear hf hn hok hc0 hD hcc0 hr0
  go_enter Try.func54, Try.ntmps54
  go_wp2_with (at_make; refine wp_mk _ rfl _ _ 29 rfl 2 (.int .i64 0) 1 8 Try.underlying29 inf_int (D + 1) rfl rfl (by omega) (by omega) ?_; intro w2 cs0 hh0 hs0 ht0 hB0 hsz0; rw [← hW1] at hh0 hB0 hsz0; have hx2 : ∀ o, w2.cell? ⟨W.heap.size, o, none⟩ = (#[.int .i64 m.c, .int .i64 m.d, .int .i64 m.s, .int .i64 m.e, .int .i64 m.l, .slice (some ⟨b0, off0, none⟩) t.length c] : Array Value)[o]? := (fun o => by rw [(bcell hB0).1 _ _ hz01, hc01]); have hz2 : W.heap.size < w2.heap.size := (by have := hB0.size; omega))
  have hblk := blk_made hh0 ht0
  rw [HZ01.out] at hblk
  rw [← cntL_nil locks 0 (D + 1)] at hblk
  have hlt2 := hblk.lt
  refine (Hlk.out.2.1 _ (hV1.below hB0).any (hC1.below hB0).any).mono ?_
  rintro e' wL ⟨lv, rfl, hLk0, hbL⟩
  obtain ⟨la, lc, rfl, hlm⟩ := hLk0.form
  have hBL := hB0.trans (hbL.mono hB0.size)
  have hzL := hbL.size
  have hxL : ∀ o, wL.cell? ⟨W.heap.size, o, none⟩ = (#[.int .i64 m.c, .int .i64 m.d, .int .i64 m.s, .int .i64 m.e, .int .i64 m.l, .slice (some ⟨b0, off0, none⟩) t.length c] : Array Value)[o]? := fun o => by rw [(bcell hBL).1 _ _ hz01, hc01]
  have hblkL := hblk.keep (hbL.block _ hlt2)
  have hLk1 : V3 (fun b => b ≠ W.heap.size + 1) wL (.slice la locks.length lc) locks := hLk0.mono (fun b h1 h2 => by intro e; omega) (fun _ _ _ => rfl)
  have HW1 := Lib.hid hW1; clear hW1 hh01
  have Hc01 := Lib.hid hc01; clear hc01 hcA
  have HL := Lib.hid (And.intro hLk1 hblkL); clear hLk1 hblkL hblk hLk0 hh0 ht0 hx2
  go_wp2_with fail
  refine (Hfirst.out.1 _ ⟨none, 0, rfl, Nat.le_refl _, Nat.zero_le _, fun k hk => by simp at hk⟩ (fun _ => .inl rfl) (by have := Hfirst.out.2; simp; omega) (fun k hk => by simp at hk)).mono ?_
  rintro e' wF ⟨kv, rfl, hkv, hbF⟩
  have hkv0 : (nextAns (keysOf m)).2 = true → V1 (fun b => b ≠ W.heap.size + 1) wF kv (nextAns (keysOf m)).1 := fun hh => (hkv hh).mono (fun b h1 h2 => by
    rcases h1 with h1 | h1
    · exact h1.elim
    · intro e; omega) (fun _ _ _ => rfl)
  have hblkF := HL.out.2.keep (hbF.block _ (by omega))
  have HI := Lib.hid (And.intro hkv0 (And.intro hblkF HL.out.1)); clear hkv hkv0 hblkF HL hxL
  have HB := Lib.hid (And.intro hBL hbF); clear hBL hB0 hbL
  have hzF := hbF.size
  clear hbF
  go_wp2_with fail
  go_loopw [7, 8, 9, 10] (fun kv okv _ _ wr => ∃ (L1 L2 : List (List Int)), keysOf m = L1 ++ L2 ∧ okv = .bool (nextAns L2).2 ∧ ((nextAns L2).2 = true → V1 (fun b => b ≠ W.heap.size + 1) wr kv (nextAns L2).1) ∧ BlkI wr (W.heap.size + 1) (cntL locks L1 0 (D + 1)) ∧ Chg (fun b => b = W.heap.size + 1) wL wr) (fun kv okv _ _ wr => toCome m wr kv okv)
  case atStart => exact ⟨[], keysOf m, rfl, rfl, HI.out.1, HI.out.2.1, Chg.of_below HB.out.2⟩
  case round =>
    obtain ⟨L1, L2, hL, hok, hkv, hblk, hch⟩ := hrel
    obtain ⟨wo, rfl⟩ : ∃ wo, wo = wr := ⟨_, rfl⟩
    have hzr := hch.size
    have hLl : L1.length ≤ 262144 := by have := Hkey.out.2; rw [hL, List.length_append] at this; omega
    cases L2 with
    | nil =>
      rw [List.append_nil] at hL
      have hok' : _ = Value.bool false := hok
      subst hok'
      rw [← hL] at hblk
      have HV4 := Lib.hid hblk; clear hblk hkv
      go_wp2_with fail
      go_ret
      exact ⟨_, rfl, by omega, HV4.out, hB01.trans ((HB.out.1.trans (hch.to_below (B := W1.heap.size) (fun i hi => by have := HZ01.out; omega) HB.out.1.size)).mono (by omega))⟩
    | cons k r =>
      have hok' : _ = Value.bool true := hok
      subst hok'
      have hk1 := hkv rfl
      have hk1' : V1 _ wo _ k := hk1
      obtain ⟨hkn, hkc, hkr⟩ := Hkey.out.1 k (by rw [hL]; simp)
      have hbeh := keys_behind Hf.out.2.2.2.1 hL
      obtain ⟨ka, kc, rfl, hkm⟩ := hk1'.form
      have hkn2 : k.length ≤ n := by omega
      have Hk := Lib.hid (And.intro hkc (And.intro hkr hbeh)); clear hkc hkr hbeh hkv hkn
      have hL' : keysOf m = (L1 ++ [k]) ++ r := by rw [hL]; simp
      have HL' := Lib.hid (And.intro hL hL'); clear hL hL'
      have hV3 : V3 (fun _ => True) wo (.slice la locks.length lc) locks := HI.out.2.2.mono (fun _ _ _ => trivial) (hch.keep fun b hb => hb)
      have hxo : ∀ o, wo.cell? ⟨W.heap.size, o, none⟩ = (#[.int .i64 m.c, .int .i64 m.d, .int .i64 m.s, .int .i64 m.e, .int .i64 m.l, .slice (some ⟨b0, off0, none⟩) t.length c] : Array Value)[o]? := fun o => by rw [hch.cell (by omega) (by omega), (bcell HB.out.1).1 _ _ hz01, Hc01.out]
      clear hk1
      obtain ⟨p, hp⟩ : ∃ p, ndoors locks k = p := ⟨_, rfl⟩
      have hpD : p ≤ D := by rw [← hp, ← hll]; exact ndoors_le locks k
      have hlk := cntL_len locks L1 0 (D + 1)
      have hge := cntL_get (locks := locks) (ks := L1) (lo := 0) (n := D + 1) (j := p) (by omega)
      have hcn := cntN_le locks L1 (0 + p)
      obtain ⟨x, hx⟩ : ∃ x, geti (cntL locks L1 0 (D + 1)) p = x := ⟨_, rfl⟩
      have hxb : 0 ≤ x ∧ x ≤ 262144 := by omega
      have hst := cntL_set (locks := locks) (ks := L1) (k := k) (lo := 0) (n := D + 1) (by omega) (by omega)
      rw [Nat.sub_zero, hp, hx] at hst
      have hcell := hblk.cell (k := p) (by omega)
      rw [hx] at hcell
      have Hst := Lib.hid (And.intro hst (And.intro hp (And.intro hblk hcell))); clear hst hp hblk hx hge hcn hcell hlk
      have hw2 : IntKind.i64.wrap (x + 1) = x + 1 := IntWalk.i64_in _ (by omega)
      have hp0 : (0 : Int) ≤ (p : Int) := by omega
      have hpD2 : (p : Int) < (D : Int) + 1 := by omega
      go_wp2_with fail
      go_loopw [9, 10] (fun ob j wn => ∃ q : Nat, q ≤ locks.length ∧ j = .int .i64 (q : Int) ∧ ob = .int .i64 ((doorsTo locks k q).length : Int) ∧ Below wo.heap.size wo wn) (fun _ j _ => locks.length - (intOf j).toNat)
      case atStart => exact ⟨0, Nat.zero_le _, rfl, rfl, Below.refl _ _⟩
      case round =>
        obtain ⟨q, hq, rfl, rfl, hBn⟩ := hrel
        have hzn := hBn.size
        by_cases hqq : q < locks.length
        · obtain ⟨b2, off2, a2, c2, rfl, _, hc2, hr2⟩ := (hV3.below hBn).cell hqq
          have hlen : k.length ≤ (getll locks q).length := by rw [Hlk.out.1 q hqq]; exact hkn2
          have hst := doorsTo_step locks k q
          have hdl := doorsTo_len locks k q
          have hop := l04Opens_any _ _ (getll locks q) k _ hr2 (hk1'.below hBn) hlen
          cases ho : opensB (getll locks q) k
          · rw [ho] at hop
            rw [if_neg (by rw [ho]; decide)] at hst
            have Hst2 := Lib.hid (And.intro hst ho); clear hst ho
            have Hop := Lib.hid hop; clear hop
            go_wp2_with fail
            refine Hop.out.mono ?_
            rintro e' w5 ⟨rfl, hb5⟩
            clear hc2 hr2
            go_wp2_with fail
            go_roundw
            case rel => exact ⟨q + 1, by omega, by go_num, by rw [Hst2.out.1], hBn.trans (hb5.mono hzn)⟩
            case measure => simp [intOf]; omega
          · rw [ho] at hop
            rw [if_pos ho] at hst
            have Hst2 := Lib.hid (And.intro hst ho); clear hst ho
            have Hop := Lib.hid hop; clear hop
            go_wp2_with fail
            refine Hop.out.mono ?_
            rintro e' w5 ⟨rfl, hb5⟩
            clear hc2 hr2
            go_wp2_with fail
            go_roundw
            case rel => exact ⟨q + 1, by omega, by go_num, by rw [Hst2.out.1]; go_num, hBn.trans (hb5.mono hzn)⟩
            case measure => simp [intOf]; omega
        · obtain rfl : q = locks.length := by omega
          rw [show (doorsTo locks k locks.length).length = p from Hst.out.2.1]
          have hGw : W.heap.size + 1 < wo.heap.size := by omega
          have hblkW := Hst.out.2.2.1.keep (hBn.block _ hGw)
          have hcellW := cell_keep Hst.out.2.2.2 (hBn.block _ hGw)
          have hfrW := hblkW.frozen p
          have hxW : ∀ o, wr.cell? ⟨W.heap.size, o, none⟩ = (#[.int .i64 m.c, .int .i64 m.d, .int .i64 m.s, .int .i64 m.e, .int .i64 m.l, .slice (some ⟨b0, off0, none⟩) t.length c] : Array Value)[o]? := fun o => by rw [(bcell hBn).1 _ _ (by omega), hxo]
          have hzw : W.heap.size < wr.heap.size := by omega
          have hkW := hk1'.below hBn
          obtain ⟨wS, hwS⟩ : ∃ wS, wS = wr.setCell ⟨W.heap.size + 1, p, none⟩ (.int .i64 (x + 1)) := ⟨_, rfl⟩
          have hchS : Chg (fun b => b = W.heap.size + 1) wr wS := by rw [hwS]; exact Chg.setCell (F := fun b => b = W.heap.size + 1) (Chg.refl _ wr) (p := ⟨W.heap.size + 1, p, none⟩) (.inl rfl) _
          have hxS : ∀ o, wS.cell? ⟨W.heap.size, o, none⟩ = (#[.int .i64 m.c, .int .i64 m.d, .int .i64 m.s, .int .i64 m.e, .int .i64 m.l, .slice (some ⟨b0, off0, none⟩) t.length c] : Array Value)[o]? := fun o => by rw [hchS.cell hzw (by omega), hxW]
          have hblkS : BlkI wS (W.heap.size + 1) (cntL locks (L1 ++ [k]) 0 (D + 1)) := by rw [hwS, ← Hst.out.1]; exact hblkW.set p (x + 1)
          have hkS : V1 (fun b => b ≠ W.heap.size + 1) wS (.slice ka k.length kc) k := hkW.mono (fun b h1 h2 => h1) (hchS.keep fun b hb => hb)
          have hchA := (hch.then_below hBn).trans hchS (fun i hi => .inl hi)
          have hzS := hchS.size
          have HS := Lib.hid (And.intro hblkS hchA); clear hblkS hchA hchS hblkW hkW
          go_wp2_with fail
          simp only [← hwS]
          go_wp2_with fail
          refine (l02Next_any m Hf.out.2.2.1 _ k _ hkS Hk.out.1 Hk.out.2.1).mono ?_
          rintro e' wM ⟨kv', he', hkv', hbM⟩
          rw [Hk.out.2.2] at he' hkv'
          subst he'
          have hkv2 : (nextAns r).2 = true → V1 (fun b => b ≠ W.heap.size + 1) wM kv' (nextAns r).1 := fun hh => (hkv' hh).mono (fun b h1 h2 => by
            rcases h1 with h1 | h1
            · exact h1.elim
            · intro e; omega) (fun _ _ _ => rfl)
          have HM := Lib.hid (And.intro hkv2 (And.intro (toCome_next Hf.out.2.2.2.1 hkv2 HL'.out.2) (toCome_more (m := m) hk1'))); clear hkv' hkv2 hxS
          obtain ⟨qb, hqb⟩ : ∃ qb, (nextAns r).2 = qb := ⟨_, rfl⟩
          rw [hqb]
          have Hqb := Lib.hid hqb; clear hqb
          go_wp2_with fail
          go_roundw
          case rel => exact ⟨L1 ++ [k], r, HL'.out.2, by rw [Hqb.out], HM.out.1, HS.out.1.keep (hbM.block _ (by omega)), HS.out.2.then_below hbM⟩
          case measure => rw [HM.out.2.2, Hk.out.2.2]; have := HM.out.2.1; rw [Hqb.out] at this; omega
end Go.Proofs.Ytbckginfipeibaa
