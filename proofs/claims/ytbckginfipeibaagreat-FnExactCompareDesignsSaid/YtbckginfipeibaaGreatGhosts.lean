/- All outsiders that open some door, or none: as the reference finds them. No conditions. -/
import Derived.Test.YtbckginfipeibaaGreatMNext
import Derived.Test.YtbckginfipeibaaGreatRefFirst
namespace Go.Proofs.YtbckginfipeibaaGreat
open Go.RowKit
set_option linter.unusedVariables false
set_option linter.unusedSimpArgs false

theorem RowVs.mono {S S' : Nat → Prop} {w : World} {vs : List Value} {ls : List (List Int)} (h : RowVs S w vs ls) (hS : ∀ b, S b → b < w.heap.size → S' b) : RowVs S' w vs ls :=
  ⟨h.1, fun k hk => by obtain ⟨ev, h1, h2⟩ := h.2 k hk; exact ⟨ev, h1, V1.mono h2 hS (fun _ _ _ => rfl)⟩⟩
def openTo (locks : List (List (List Int))) (key : List Int) : Nat → Bool
  | 0 => false
  | k + 1 => openTo locks key k || opensB (getll locks k) key
theorem openTo_iff {locks : List (List (List Int))} {key : List Int} : ∀ {k}, openTo locks key k = true ↔ 0 < (doorsTo locks key k).length
  | 0 => by simp [openTo, doorsTo]
  | k + 1 => by
    rw [openTo, Bool.or_eq_true, openTo_iff (k := k), doorsTo]
    by_cases h : opensB (getll locks k) key = true
    · simp [h]
    · simp [h]
theorem openTo_all (locks : List (List (List Int))) (key : List Int) : openTo locks key locks.length = decide (0 < ndoors locks key) := by
  rw [Bool.eq_iff_iff, openTo_iff, decide_eq_true_eq]; rfl
/-- An outsider that opens some door, or none. -/
def selK (locks : List (List (List Int))) (cuts : List (List Int)) (g : Bool) (k : List Int) : Bool := (decide (0 < ndoors locks k) == g) && !hasL cuts k
def selL (locks : List (List (List Int))) (cuts : List (List Int)) (g : Bool) (ks : List (List Int)) : List (List Int) := ks.filter (selK locks cuts g)
theorem selL_snoc (locks : List (List (List Int))) (cuts : List (List Int)) (g : Bool) (ks : List (List Int)) (k : List Int) : selL locks cuts g (ks ++ [k]) = if selK locks cuts g k = true then selL locks cuts g ks ++ [k] else selL locks cuts g ks := by
  unfold selL
  rw [List.filter_append]
  cases h : selK locks cuts g k <;> simp [h]
theorem selL_length (locks : List (List (List Int))) (cuts : List (List Int)) (g : Bool) (ks : List (List Int)) : (selL locks cuts g ks).length ≤ ks.length := List.length_filter_le _ _

theorem toCome_next {m : Mk} {w : World} {kv : Value} {S : Nat → Prop} {L r : List (List Int)} (hc : 0 ≤ m.c) (h : (nextAns r).2 = true → V1 S w kv (nextAns r).1) (hL : keysOf m = L ++ r) : toCome m w kv (.bool (nextAns r).2) ≤ r.length := by
  cases r with
  | nil => rw [show (nextAns []).2 = false from rfl, toCome_last]; exact Nat.zero_le _
  | cons k r =>
    have h1 : V1 S w kv k := h rfl
    rw [show (nextAns (k :: r)).2 = true from rfl, toCome_more h1, keys_behind hc hL]
    exact Nat.le_refl _
theorem key_far {S : Nat → Prop} {w w' : World} {ou kv : Value} {base n : Nat} {e : TypeId} {xs : List Value} {k : List Int} (hown : w.ownsRow base e 1 ou n xs) (h : V1 (fun b => S b ∨ w.heap.size ≤ b) w' kv k) (hS : ∀ b, ¬ S b) : V1 (fun b => ou.ownBlock ≠ some b) w' kv k :=
  h.mono (fun b h1 _ e => by
    have := (hown.lt b e).2
    rcases h1 with h2 | h2
    · exact hS b h2
    · omega) (fun _ _ _ => rfl)
theorem V1.far {w w1 : World} {ou v1 kv : Value} {k : List Int} (h : V1 (fun b => ou.ownBlock ≠ some b) w kv k) (hg : w.grownBy w1 ou.ownBlock) (hblk : v1.ownBlock = ou.ownBlock ∨ ∃ g, v1.ownBlock = some g ∧ w.heap.size ≤ g) : V1 (fun b => v1.ownBlock ≠ some b) w1 kv k :=
  h.mono (fun b h1 h2 e => by
    rcases hblk with e1 | ⟨g, e1, hge⟩
    · exact h1 (e1.symm.trans e)
    · rw [e] at e1; cases e1; omega) (grow_keep hg fun g hgg hS => hS hgg)
theorem RowVs.far {w w1 : World} {ou v1 : Value} {vs : List Value} {ls : List (List Int)} (h : RowVs (fun b => ou.ownBlock ≠ some b) w vs ls) (hg : w.grownBy w1 ou.ownBlock) (hblk : v1.ownBlock = ou.ownBlock ∨ ∃ g, v1.ownBlock = some g ∧ w.heap.size ≤ g) : RowVs (fun b => v1.ownBlock ≠ some b) w1 vs ls :=
  ⟨h.1, fun k hk => by obtain ⟨ev, h1, h2⟩ := h.2 k hk; exact ⟨ev, h1, V1.far h2 hg hblk⟩⟩
set_option maxRecDepth 100000 in
set_option maxHeartbeats 4000000 in
theorem l21Outsiders_any {S S' : Nat → Prop} (m : Mk) (u v : Value) (t cuts : List (List Int)) (n : Nat) (gb : Bool) (W : World) (hf : Fits m t cuts) (hn : (n : Int) = m.c) (h : V2 S W u t) (hc : V2 S' W v cuts) :
    Calls Tryz.prog 21 #[.agg #[.int .i64 m.c, .int .i64 m.d, .int .i64 m.s, .int .i64 m.e, .int .i64 m.l, u], v, .bool gb] W fun e' w' => ∃ v', e' = .returned v' ∧ V2 (fun b => b < w'.heap.size) w' v' (selL (locksTo n t cuts (getl t 0).length) cuts gb (keysOf m)) ∧ Below W.heap.size W w' := by
  obtain ⟨a, c, rfl, hmx⟩ := h.form
  obtain ⟨a', c', rfl, hmx'⟩ := hc.form
  have hdoors := hf.doors
  have hok := hf.ok
  have hkl := keysOf_length hok
  have hmk := Mk.ok_iff.1 hok
  have hc0 : 0 ≤ m.c := by omega
  have hkey : ∀ k, k ∈ keysOf m → k.length = n ∧ (k.length : Int) = m.c ∧ ∀ i, i < k.length → 0 ≤ geti k i ∧ geti k i ≤ 7 := fun k hk => by
    have h1 := isKey_iff.1 ((mem_keysOf hc0).1 hk)
    refine ⟨by omega, h1.1, fun i hi => ?_⟩
    have := h1.2.1 _ (geti_mem hi)
    omega
  obtain ⟨locks, hlocks⟩ : ∃ x, x = locksTo n t cuts (getl t 0).length := ⟨_, rfl⟩
  rw [← hlocks]
  have hll : locks.length ≤ 12 := by rw [hlocks, locksTo_len]; omega
  have hlk : ∀ k, k < locks.length → (getll locks k).length = n := fun k hk => by rw [hlocks]; rw [hlocks, locksTo_len] at hk; exact lock_len hk
  have hfirst := l02First_any m hok m.c.toNat (fun _ => False) (.slice none 0 0) []
  rw [genB_nil] at hfirst
  have hcc : ((m.c.toNat : Nat) : Int) = m.c := by omega
  have Hfirst := Lib.hid (And.intro hfirst hcc); clear hfirst hcc
  have Hkey := Lib.hid (And.intro hkey hkl); clear hkey hkl hmk
  have Hlocks := Lib.hid hlocks; clear hlocks
  have Hlk := Lib.hid hlk; clear hlk
  have Hf := Lib.hid (And.intro hf (And.intro hn (And.intro hok hc0))); clear hf hn hok hc0
  obtain ⟨W1, hW1, hB01, hz01, HZ01, hc01, hh01⟩ := box_facts W #[.int .i64 m.c, .int .i64 m.d, .int .i64 m.s, .int .i64 m.e, .int .i64 m.l, .slice a t.length c] 33
  have hV1 := (h.below hB01).any
  have hC1 := (hc.below hB01).any
  have hown0 := own_lit0 W1 W1.heap.size 44 1 (Nat.le_refl _)
  go_enter Tryz.func21, Tryz.ntmps21
  go_wp2_with fail
  rw [← hW1, show W.heap.size + 1 = W1.heap.size from HZ01.out.symm]
  have hbA : Below W1.heap.size W1 (W1.alloc (.cells #[] 44)) := (Below.refl _ _).alloc (Nat.le_refl _) _
  refine (l15Locks_any m _ _ t cuts n _ Hf.out.1 Hf.out.2.1 (hV1.below hbA) (hC1.below hbA)).mono ?_
  rintro e' wL ⟨lv, rfl, hLk0, hbL⟩
  rw [← Hlocks.out] at hLk0
  have hLk1 : LkAt W1.heap.size wL.heap.size (.slice (some ⟨W1.heap.size, 0, none⟩) 0 0) wL lv locks := ⟨hLk0.mono (fun b h1 h2 => ⟨by simp at h1; omega, h2⟩) (fun _ _ _ => rfl), fun g hg => .inl (by cases hg; rfl), Nat.le_refl _⟩
  obtain ⟨la, lc, rfl, hlm⟩ := hLk0.form
  have hBL := hbA.trans (hbL.mono (by simp))
  have hxL : ∀ o, wL.cell? ⟨W.heap.size, o, none⟩ = (#[.int .i64 m.c, .int .i64 m.d, .int .i64 m.s, .int .i64 m.e, .int .i64 m.l, .slice a t.length c] : Array Value)[o]? := fun o => by rw [(bcell hBL).1 _ _ hz01, hc01]
  have hownL := own_chg hown0 (Chg.of_below (F := fun _ => False) hbL) (fun _ _ h => h)
  have HW1 := Lib.hid hW1; clear hW1 hh01
  have Hc01 := Lib.hid hc01; clear hc01
  have HL := Lib.hid (And.intro hLk1 hownL); clear hLk1 hownL hown0 hLk0
  go_wp2_with fail
  refine (Hfirst.out.1 _ ⟨none, 0, rfl, Nat.le_refl _, Nat.zero_le _, fun k hk => by simp at hk⟩ (fun _ => .inl rfl) (by have := Hfirst.out.2; simp; omega) (fun k hk => by simp at hk)).mono ?_
  rintro e' wF ⟨kv, rfl, hkv, hbF⟩
  have hBF := hBL.trans (hbF.mono hBL.size)
  have hzL := hBL.size
  have hkv0 : (nextAns (keysOf m)).2 = true → V1 (fun b => (Value.slice (some ⟨W1.heap.size, 0, none⟩) 0 0).ownBlock ≠ some b) wF kv (nextAns (keysOf m)).1 := fun hh => (hkv hh).mono (fun b h1 h2 e => by
    rcases h1 with h1 | h1
    · exact h1
    · have e' : W1.heap.size = b := by simpa [Value.ownBlock] using e
      have := hbA.size; have := hbL.size; simp at *; omega) (fun _ _ _ => rfl)
  have hLF : LkAt W1.heap.size wL.heap.size (.slice (some ⟨W1.heap.size, 0, none⟩) 0 0) wF (.slice la locks.length lc) locks := HL.out.1.below hbF
  have hownF := own_chg HL.out.2 (Chg.of_below (F := fun _ => False) hbF) (fun _ _ h => h)
  have HI := Lib.hid (And.intro hkv0 (And.intro hLF hownF)); clear hkv hkv0 hLF hownF HL hxL
  go_wp2_with fail
  go_loopw [7, 9, 10, 11, 12] (fun ou kv okv _ _ wr => ∃ (L1 L2 : List (List Int)) (vs : List Value), keysOf m = L1 ++ L2 ∧ okv = .bool (nextAns L2).2 ∧ ((nextAns L2).2 = true → V1 (fun b => ou.ownBlock ≠ some b) wr kv (nextAns L2).1) ∧ wr.ownsRow W1.heap.size 44 1 ou (selL locks cuts gb L1).length vs ∧ RowVs (fun b => ou.ownBlock ≠ some b) wr vs (selL locks cuts gb L1) ∧ LkAt W1.heap.size wL.heap.size ou wr (.slice la locks.length lc) locks ∧ Below W1.heap.size W1 wr) (fun _ kv okv _ _ wr => toCome m wr kv okv)
  case atStart => exact ⟨[], keysOf m, [], rfl, rfl, HI.out.1, HI.out.2.2, RowVs.nil, HI.out.2.1, hBF⟩
  case round =>
    obtain ⟨L1, L2, vs, hL, hok, hkv, hown, hR, hLk, hB⟩ := hrel
    obtain ⟨wo, rfl⟩ : ∃ wo, wo = wr := ⟨_, rfl⟩
    have hzr := hB.size
    have hselL := selL_length locks cuts gb L1
    have hLl : L1.length ≤ 262144 := by have := Hkey.out.2; rw [hL, List.length_append] at this; omega
    cases L2 with
    | nil =>
      rw [List.append_nil] at hL
      have hok' : _ = Value.bool false := hok
      subst hok'
      have hV4 := (own_V2 hown (hR.mono (fun _ _ _ => trivial))).old
      rw [← hL] at hV4
      obtain ⟨oa, oc, rfl, ho1, ho2⟩ := own_form hown
      have HV4 := Lib.hid hV4; clear hV4 hkv hR hown hLk
      go_wp2_with fail
      go_ret
      exact ⟨_, rfl, HV4.out, hB01.trans (hB.mono (by omega))⟩
    | cons k r =>
      have hok' : _ = Value.bool true := hok
      subst hok'
      have hk1 := hkv rfl
      have hk1' : V1 _ wo _ k := hk1
      obtain ⟨hkn, hkc, hkr⟩ := Hkey.out.1 k (by rw [hL]; simp)
      have hbeh := keys_behind Hf.out.2.2.2 hL
      obtain ⟨ka, kc, rfl, hkm⟩ := hk1'.form
      have hkn2 : k.length ≤ n := by omega
      have Hk := Lib.hid (And.intro hkc (And.intro hkr hbeh)); clear hkc hkr hbeh hkv hkn
      have hL' : keysOf m = (L1 ++ [k]) ++ r := by rw [hL]; simp
      have HL' := Lib.hid (And.intro hL hL'); clear hL hL'
      have Hown := Lib.hid (And.intro hown hR); clear hown hR
      have hsn := selL_snoc locks cuts gb L1 k
      have Hsn := Lib.hid hsn; clear hsn
      have hxo : ∀ o, wo.cell? ⟨W.heap.size, o, none⟩ = (#[.int .i64 m.c, .int .i64 m.d, .int .i64 m.s, .int .i64 m.e, .int .i64 m.l, .slice a t.length c] : Array Value)[o]? := fun o => by rw [(bcell hB).1 _ _ hz01, Hc01.out]
      clear hk1
      go_wp2_with fail
      clear hxo
      go_loopw [11, 12] (fun ob j wn => ∃ q : Nat, q ≤ locks.length ∧ j = .int .i64 (q : Int) ∧ ob = .bool (openTo locks k q) ∧ Below wo.heap.size wo wn) (fun _ j _ => locks.length - (intOf j).toNat)
      case atStart => exact ⟨0, Nat.zero_le _, rfl, rfl, Below.refl _ _⟩
      case round =>
        obtain ⟨q, hq, rfl, rfl, hBn⟩ := hrel
        have hzn := hBn.size
        by_cases hqq : q < locks.length
        · cases ho : openTo locks k q
          · obtain ⟨b2, off2, a2, c2, rfl, _, hc2, hr2⟩ := (hLk.1.below hBn).cell hqq
            have hlen : k.length ≤ (getll locks q).length := by rw [Hlk.out q hqq]; exact hkn2
            have hst : openTo locks k (q + 1) = opensB (getll locks q) k := by rw [openTo, ho]; rfl
            have Hst := Lib.hid hst; clear hst
            have Ho := Lib.hid ho; clear ho
            go_wp2_with fail
            refine (l04Opens_any _ _ (getll locks q) k _ hr2 (hk1'.below hBn) hlen).mono ?_
            rintro e' w5 ⟨rfl, hb5⟩
            clear hc2 hr2
            go_wp2_with fail
            go_roundw
            case rel => exact ⟨q + 1, by omega, by go_num, by rw [Hst.out], hBn.trans (hb5.mono hzn)⟩
            case measure => simp [intOf]; omega
          · have hst : openTo locks k (q + 1) = true := by rw [openTo, ho]; rfl
            have Hst := Lib.hid hst; clear hst
            have Ho := Lib.hid ho; clear ho
            go_wp2_with fail
            go_roundw
            case rel => exact ⟨q + 1, by omega, by go_num, by rw [Hst.out], hBn⟩
            case measure => simp [intOf]; omega
        · obtain rfl : q = locks.length := by omega
          rw [openTo_all]
          have hBW := hB.trans (hBn.mono hzr)
          have hownW := own_chg Hown.out.1 (Chg.of_below (F := fun _ => False) hBn) (fun _ _ h => h)
          have hRW := RowVs.below Hown.out.2 hBn
          have hLkW := hLk.below hBn
          have hkW := hk1'.below hBn
          have hse : selK locks cuts gb k = ((decide (0 < ndoors locks k) == gb) && !hasL cuts k) := rfl
          have hslen : (selL locks cuts gb L1).length ≤ 262144 := by omega
          obtain ⟨o, ho⟩ : ∃ o, decide (0 < ndoors locks k) = o := ⟨_, rfl⟩
          rw [ho] at hse ⊢
          have Ho := Lib.hid ho; clear ho
          cases hog : (o == gb)
          · have hsf : ¬ selK locks cuts gb k = true := by rw [hse, hog]; simp
            have Hsf := Lib.hid (And.intro hsf hse); clear hsf hse
            have hownN := hownW
            have hRN := hRW
            have hLkN := hLkW
            have hBN := hBW
            have hkN := hkW
            clear hownW hRW hLkW hBW hkW
            have hxN : ∀ o, wr.cell? ⟨W.heap.size, o, none⟩ = (#[.int .i64 m.c, .int .i64 m.d, .int .i64 m.s, .int .i64 m.e, .int .i64 m.l, .slice a t.length c] : Array Value)[o]? := fun o => by rw [(bcell hBN).1 _ _ hz01, Hc01.out]
            have hzN : W.heap.size < wr.heap.size := by have := hBN.size; omega
            have HN := Lib.hid (And.intro hownN (And.intro hRN (And.intro hLkN hBN))); clear hownN hRN hLkN hBN
            go_wp2_with fail
            refine (l02Next_any m Hf.out.2.2.1 _ k _ hkN Hk.out.1 Hk.out.2.1).mono ?_
            rintro e' wM ⟨kv', he', hkv', hbM⟩
            rw [Hk.out.2.2] at he' hkv'
            subst he'
            have hkv2 : (nextAns r).2 = true → V1 _ wM kv' (nextAns r).1 := fun hh => key_far HN.out.1 (hkv' hh) (fun _ h => h)
            have HM := Lib.hid (And.intro hkv2 (And.intro (toCome_next Hf.out.2.2.2 hkv2 HL'.out.2) (toCome_more (m := m) hk1'))); clear hkv' hkv2 hxN
            obtain ⟨qb, hqb⟩ : ∃ qb, (nextAns r).2 = qb := ⟨_, rfl⟩
            rw [hqb]
            have Hqb := Lib.hid hqb; clear hqb
            go_wp2_with fail
            go_roundw
            case rel => exact ⟨L1 ++ [k], r, _, HL'.out.2, by rw [Hqb.out], HM.out.1, by rw [Hsn.out, if_neg Hsf.out.1]; exact own_chg HN.out.1 (Chg.of_below (F := fun _ => False) hbM) (fun _ _ h => h), by rw [Hsn.out, if_neg Hsf.out.1]; exact RowVs.below HN.out.2.1 hbM, HN.out.2.2.1.below hbM, HN.out.2.2.2.trans (hbM.mono HN.out.2.2.2.size)⟩
            case measure => rw [HM.out.2.2, Hk.out.2.2]; have := HM.out.2.1; rw [Hqb.out] at this; omega
          · cases hh : hasL cuts k
            · have hst : selK locks cuts gb k = true := by rw [hse, hog, hh]; rfl
              have Hst := Lib.hid (And.intro hst hse); clear hst hse
              have Hh := Lib.hid hh; clear hh
              go_wp2_with fail
              refine (l14Has_b _ _ cuts k _ _ Hh.out (hC1.below hBW) hkW).mono ?_
              rintro e' w6 ⟨rfl, nq, hw6⟩
              have hb6 : Below wr.heap.size wr w6 := by rw [hw6]; exact below_drewN (Below.refl _ _) _
              clear hw6
              have hown6 := own_chg hownW (Chg.of_below (F := fun _ => False) hb6) (fun _ _ h => h)
              have hR6 := RowVs.below hRW hb6
              have hLk6 := hLkW.below hb6
              have hB6 := hBW.trans (hb6.mono (by have := hBW.size; omega))
              have hk6 := hkW.below hb6
              have hz6 := hB6.size
              clear hownW hRW hLkW hBW hkW
              go_wp2_with ((at_builtin; refine wp_app1 _ rfl _ _ 24 rfl W1.heap.size 44 (.slice none 0 0) 24 Tryz.underlying24 inf_ints rfl u7 _ _ rfl hown6 (.slice ka k.length kc) _ rfl rfl (by omega) (by omega) (by omega) ?_; intro v1 w1 hown1 hgrow1 hblk1 hB1); have hBN := hB6.trans hB1; have hx1 : ∀ o, w1.cell? ⟨W.heap.size, o, none⟩ = (#[.int .i64 m.c, .int .i64 m.d, .int .i64 m.s, .int .i64 m.e, .int .i64 m.l, .slice a t.length c] : Array Value)[o]? := (fun o => by rw [(bcell hBN).1 _ _ hz01, Hc01.out]); have hz1 : W.heap.size < w1.heap.size := (by have := hBN.size; omega))
              clear hx1
              have hownN := hown1
              rw [show (selL locks cuts gb L1).length + 1 = (selL locks cuts gb L1 ++ [k]).length from (by simp)] at hownN
              have hkN : V1 (fun b => v1.ownBlock ≠ some b) w1 _ k := V1.far hk6 hgrow1 hblk1
              have hRN := RowVs.snoc (RowVs.far hR6 hgrow1 hblk1) hkN
              have hLkN := hLk6.grown hgrow1 hblk1
              clear hown6 hR6 hLk6 hB6 hk6 hown1 hgrow1 hblk1 hB1
              have hxN : ∀ o, w1.cell? ⟨W.heap.size, o, none⟩ = (#[.int .i64 m.c, .int .i64 m.d, .int .i64 m.s, .int .i64 m.e, .int .i64 m.l, .slice a t.length c] : Array Value)[o]? := fun o => by rw [(bcell hBN).1 _ _ hz01, Hc01.out]
              have hzN : W.heap.size < w1.heap.size := by have := hBN.size; omega
              have HN := Lib.hid (And.intro hownN (And.intro hRN (And.intro hLkN hBN))); clear hownN hRN hLkN hBN
              go_wp2_with fail
              refine (l02Next_any m Hf.out.2.2.1 _ k _ hkN Hk.out.1 Hk.out.2.1).mono ?_
              rintro e' wM ⟨kv', he', hkv', hbM⟩
              rw [Hk.out.2.2] at he' hkv'
              subst he'
              have hkv2 : (nextAns r).2 = true → V1 _ wM kv' (nextAns r).1 := fun hh => key_far HN.out.1 (hkv' hh) (fun _ h => h)
              have HM := Lib.hid (And.intro hkv2 (And.intro (toCome_next Hf.out.2.2.2 hkv2 HL'.out.2) (toCome_more (m := m) hk1'))); clear hkv' hkv2 hxN
              obtain ⟨qb, hqb⟩ : ∃ qb, (nextAns r).2 = qb := ⟨_, rfl⟩
              rw [hqb]
              have Hqb := Lib.hid hqb; clear hqb
              go_wp2_with fail
              go_roundw
              case rel => exact ⟨L1 ++ [k], r, _, HL'.out.2, by rw [Hqb.out], HM.out.1, by rw [Hsn.out, if_pos Hst.out.1]; exact own_chg HN.out.1 (Chg.of_below (F := fun _ => False) hbM) (fun _ _ h => h), by rw [Hsn.out, if_pos Hst.out.1]; exact RowVs.below HN.out.2.1 hbM, HN.out.2.2.1.below hbM, HN.out.2.2.2.trans (hbM.mono HN.out.2.2.2.size)⟩
              case measure => rw [HM.out.2.2, Hk.out.2.2]; have := HM.out.2.1; rw [Hqb.out] at this; omega
            · have hsf : ¬ selK locks cuts gb k = true := by rw [hse, hog, hh]; simp
              have Hsf := Lib.hid (And.intro hsf hse); clear hsf hse
              have Hh := Lib.hid hh; clear hh
              go_wp2_with fail
              refine (l14Has_b _ _ cuts k _ _ Hh.out (hC1.below hBW) hkW).mono ?_
              rintro e' w6 ⟨rfl, nq, hw6⟩
              have hb6 : Below wr.heap.size wr w6 := by rw [hw6]; exact below_drewN (Below.refl _ _) _
              clear hw6
              have hownN := own_chg hownW (Chg.of_below (F := fun _ => False) hb6) (fun _ _ h => h)
              have hRN := RowVs.below hRW hb6
              have hLkN := hLkW.below hb6
              have hBN := hBW.trans (hb6.mono (by have := hBW.size; omega))
              have hkN := hkW.below hb6
              clear hownW hRW hLkW hBW hkW
              have hxN : ∀ o, w6.cell? ⟨W.heap.size, o, none⟩ = (#[.int .i64 m.c, .int .i64 m.d, .int .i64 m.s, .int .i64 m.e, .int .i64 m.l, .slice a t.length c] : Array Value)[o]? := fun o => by rw [(bcell hBN).1 _ _ hz01, Hc01.out]
              have hzN : W.heap.size < w6.heap.size := by have := hBN.size; omega
              have HN := Lib.hid (And.intro hownN (And.intro hRN (And.intro hLkN hBN))); clear hownN hRN hLkN hBN
              go_wp2_with fail
              refine (l02Next_any m Hf.out.2.2.1 _ k _ hkN Hk.out.1 Hk.out.2.1).mono ?_
              rintro e' wM ⟨kv', he', hkv', hbM⟩
              rw [Hk.out.2.2] at he' hkv'
              subst he'
              have hkv2 : (nextAns r).2 = true → V1 _ wM kv' (nextAns r).1 := fun hh => key_far HN.out.1 (hkv' hh) (fun _ h => h)
              have HM := Lib.hid (And.intro hkv2 (And.intro (toCome_next Hf.out.2.2.2 hkv2 HL'.out.2) (toCome_more (m := m) hk1'))); clear hkv' hkv2 hxN
              obtain ⟨qb, hqb⟩ : ∃ qb, (nextAns r).2 = qb := ⟨_, rfl⟩
              rw [hqb]
              have Hqb := Lib.hid hqb; clear hqb
              go_wp2_with fail
              go_roundw
              case rel => exact ⟨L1 ++ [k], r, _, HL'.out.2, by rw [Hqb.out], HM.out.1, by rw [Hsn.out, if_neg Hsf.out.1]; exact own_chg HN.out.1 (Chg.of_below (F := fun _ => False) hbM) (fun _ _ h => h), by rw [Hsn.out, if_neg Hsf.out.1]; exact RowVs.below HN.out.2.1 hbM, HN.out.2.2.1.below hbM, HN.out.2.2.2.trans (hbM.mono HN.out.2.2.2.size)⟩
              case measure => rw [HM.out.2.2, Hk.out.2.2]; have := HM.out.2.1; rw [Hqb.out] at this; omega
end Go.Proofs.YtbckginfipeibaaGreat
