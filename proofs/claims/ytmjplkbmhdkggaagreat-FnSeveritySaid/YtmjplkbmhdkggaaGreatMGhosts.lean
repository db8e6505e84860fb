/- All outsiders that open some door, or none: as the reference finds them. No conditions. -/
import Derived.Test.YtmjplkbmhdkggaaGreatMNext
import Derived.Test.YtmjplkbmhdkggaaGreatMLib
import Derived.Test.YtmjplkbmhdkggaaGreatMTable
import Derived.Test.YtmjplkbmhdkggaaGreatMStops
namespace Go.Proofs.YtmjplkbmhdkggaaGreat
open Go.RowKit
set_option linter.unusedVariables false
set_option linter.unusedSimpArgs false
theorem RowVs.mono {S S' : Nat → Prop} {w : World} {vs : List Value} {ls : List (List Int)} (h : RowVs S w vs ls) (hS : ∀ b, S b → b < w.heap.size → S' b) : RowVs S' w vs ls :=
 ⟨h.1, fun k hk => by obtain ⟨ev, h1, h2⟩ := h.2 k hk; exact ⟨ev, h1, V1.mono h2 hS (fun _ _ _ => rfl)⟩⟩
def openTo (locks : List (List (List Int))) (key : List Int) : Nat → Bool
 | 0 => false
 | k + 1 => openTo locks key k || opensB (getll locks k) key
theorem openTo_iff {locks : List (List (List Int))} {key : List Int} : ∀ {k}, openTo locks key k = true ↔ 0 < (doorsTo locks key k).length
 | 0 => by simp [openTo, doorsTo]
 | k + 1 => by
   rw [openTo, Bool.or_eq_true, openTo_iff (k := k), doorsTo]
   by_cases h : opensB (getll locks k) key = true
   ·simp [h]
   ·simp [h]
theorem openTo_all (locks : List (List (List Int))) (key : List Int) : openTo locks key locks.length = decide (0 < ndoors locks key) := by
 rw [Bool.eq_iff_iff, openTo_iff, decide_eq_true_eq]; rfl
/-- An outsider that opens some door, or none. -/
def selK (locks : List (List (List Int))) (cuts : List (List Int)) (g : Bool) (k : List Int) : Bool := (decide (0 < ndoors locks k) == g) && !hasL cuts k
def selL (locks : List (List (List Int))) (cuts : List (List Int)) (g : Bool) (ks : List (List Int)) : List (List Int) := ks.filter (selK locks cuts g)
theorem selL_snoc (locks : List (List (List Int))) (cuts : List (List Int)) (g : Bool) (ks : List (List Int)) (k : List Int) : selL locks cuts g (ks ++ [k]) = if selK locks cuts g k = true then selL locks cuts g ks ++ [k] else selL locks cuts g ks := by
 unfold selL
 rw [List.filter_append]
 cases h : selK locks cuts g k <;> simp [h]
theorem selL_length (locks : List (List (List Int))) (cuts : List (List Int)) (g : Bool) (ks : List (List Int)) : (selL locks cuts g ks).length ≤ ks.length := List.length_filter_le _ _
theorem toCome_next {m : Mk} {w : World} {kv : Value} {S : Nat → Prop} {L r : List (List Int)} (hc : 0 ≤ m.c) (h : (nextAns r).2 = true → V1 S w kv (nextAns r).1) (hL : keysOf m = L ++ r) : toCome m w kv (.bool (nextAns r).2) ≤ r.length := by
 cases r with
 | nil => rw [show (nextAns []).2 = false from rfl, toCome_last]; exact Nat.zero_le _
 | cons k r =>
   have h1 : V1 S w kv k := h rfl
   rw [show (nextAns (k :: r)).2 = true from rfl, toCome_more h1, keys_behind hc hL]
   exact Nat.le_refl _
theorem V1.far {w w1 : World} {ou v1 kv : Value} {k : List Int} (h : V1 (fun b => ou.ownBlock ≠ some b) w kv k) (hg : w.grownBy w1 ou.ownBlock) (hblk : v1.ownBlock = ou.ownBlock ∨ ∃ g, v1.ownBlock = some g ∧ w.heap.size ≤ g) : V1 (fun b => v1.ownBlock ≠ some b) w1 kv k :=
 h.mono (fun b h1 h2 e => by
  rcases hblk with e1 | ⟨g, e1, hge⟩
  ·exact h1 (e1.symm.trans e)
  ·rw [e] at e1; cases e1; omega) (grow_keep hg fun g hgg hS => hS hgg)
theorem RowVs.far {w w1 : World} {ou v1 : Value} {vs : List Value} {ls : List (List Int)} (h : RowVs (fun b => ou.ownBlock ≠ some b) w vs ls) (hg : w.grownBy w1 ou.ownBlock) (hblk : v1.ownBlock = ou.ownBlock ∨ ∃ g, v1.ownBlock = some g ∧ w.heap.size ≤ g) : RowVs (fun b => v1.ownBlock ≠ some b) w1 vs ls :=
 ⟨h.1, fun k hk => by obtain ⟨ev, h1, h2⟩ := h.2 k hk; exact ⟨ev, h1, V1.far h2 hg hblk⟩⟩
theorem key_farC {C S : Nat → Prop} {w w' : World} {ou kv : Value} {base n : Nat} {e : TypeId} {xs : List Value} {k : List Int} (hown : w.ownsRow base e 1 ou n xs) (h : V1 (fun b => S b ∨ w.heap.size ≤ b) w' kv k) (hS : ∀ b, ¬ S b) (hC : ∀ b, w.heap.size ≤ b → C b) : V1 (fun b => ou.ownBlock ≠ some b ∧ C b) w' kv k :=
 h.mono (fun b h1 _ => by
  rcases h1 with h2 | h2
  ·exact absurd h2 (hS b)
  ·exact ⟨fun e => by have := (hown.lt b e).2; omega, hC b h2⟩) (fun _ _ _ => rfl)
theorem V1.farC {C : Nat → Prop} {w w1 : World} {ou v1 kv : Value} {k : List Int} (h : V1 (fun b => ou.ownBlock ≠ some b ∧ C b) w kv k) (hg : w.grownBy w1 ou.ownBlock) (hblk : v1.ownBlock = ou.ownBlock ∨ ∃ g, v1.ownBlock = some g ∧ w.heap.size ≤ g) : V1 (fun b => v1.ownBlock ≠ some b ∧ C b) w1 kv k :=
 h.mono (fun b h1 h2 => ⟨fun e => by
  rcases hblk with e1 | ⟨g, e1, hge⟩
  ·exact h1.1 (e1.symm.trans e)
  ·rw [e] at e1; cases e1; omega, h1.2⟩) (grow_keep hg fun g hgg hS => hS.1 hgg)
theorem RowVs.farC {C : Nat → Prop} {w w1 : World} {ou v1 : Value} {vs : List Value} {ls : List (List Int)} (h : RowVs (fun b => ou.ownBlock ≠ some b ∧ C b) w vs ls) (hg : w.grownBy w1 ou.ownBlock) (hblk : v1.ownBlock = ou.ownBlock ∨ ∃ g, v1.ownBlock = some g ∧ w.heap.size ≤ g) : RowVs (fun b => v1.ownBlock ≠ some b ∧ C b) w1 vs ls :=
 ⟨h.1, fun k hk => by obtain ⟨ev, h1, h2⟩ := h.2 k hk; exact ⟨ev, h1, V1.farC h2 hg hblk⟩⟩
theorem own_V2g {C : Nat → Prop} {w : World} {B : Nat} {e : TypeId} {v : Value} {n : Nat} {vs : List Value} {ls : List (List Int)} (h : w.ownsRow B e 1 v n vs) (hr : RowVs (fun b => v.ownBlock ≠ some b ∧ C b) w vs ls) (hC : ∀ b, B ≤ b → C b) : V2 C w v ls := by
 obtain ⟨hl, h⟩ := h
 have hn : n = ls.length := by have := hr.1; omega
 subst hn
 rcases h with ⟨rfl, h0⟩ | ⟨g, cap, cur, rfl, hb, hh, hc, hm, hs, ht⟩
 ·exact ⟨none, 0, by rw [h0], by omega, Nat.zero_le _, fun k hk => by omega⟩
 ·refine ⟨_, _, rfl, hc, hm, fun k hk => ?_⟩
  obtain ⟨ev, h1, h2⟩ := hr.2 k hk
  refine ⟨g, 0, ev, rfl, hC g hb, ?_, h2.mono (fun b hb _ => hb.2) (fun _ _ _ => rfl)⟩
  have h3 : (cur.toList.take (ls.length * 1))[k]? = vs[k]? := by rw [ht]
  rw [List.getElem?_take, if_pos (by omega), h1] at h3
  rw [cell_of_block hh, Nat.zero_add, ← Array.getElem?_toList, h3]
set_option maxRecDepth 100000 in
set_option maxHeartbeats 4000000 in
theorem l21Outsiders_fr {S S' : Nat → Prop} (m : Mk) (u v : Value) (t cuts : List (List Int)) (n : Nat) (gb : Bool) (W : World) (hf : Fits m t cuts) (hn : (n : Int) = m.c) (h : V2 S W u t) (hc : V2 S' W v cuts) :
  Calls Tryz.prog 54 #[.agg #[.int .i64 m.c, .int .i64 m.d, .int .i64 m.s, .int .i64 m.e, .int .i64 m.l, u], v, .bool gb] W fun e' w' => ∃ v', e' = .returned v' ∧ V2 (fun b => W.heap.size ≤ b) w' v' (selL (locksTo n t cuts (getl t 0).length) cuts gb (keysOf m)) ∧ Below W.heap.size W w' := by
 obtain ⟨a, c, rfl, hmx⟩ := h.form
 obtain ⟨a', c', rfl, hmx'⟩ := hc.form
 have hdoors := hf.doors
 have hok := hf.ok
 have hkl := keysOf_length hok
 have hmk := Mk.ok_iff.1 hok
 have hc0 : 0 ≤ m.c := by omega
 have hkey : ∀ k, k ∈ keysOf m → k.length = n ∧ (k.length : Int) = m.c ∧ ∀ i, i < k.length → 0 ≤ geti k i ∧ geti k i ≤ 7 := fun k hk => by
  have h1 := isKey_iff.1 ((mem_keysOf hc0).1 hk)
  refine ⟨by omega, h1.1, fun i hi => ?_⟩
  have := h1.2.1 _ (geti_mem hi)
  omega
 obtain ⟨locks, hlocks⟩ : ∃ x, x = locksTo n t cuts (getl t 0).length := ⟨_, rfl⟩
 rw [← hlocks]
 have hll : locks.length ≤ 12 := by rw [hlocks, locksTo_len]; omega
 have hlk : ∀ k, k < locks.length → (getll locks k).length = n := fun k hk => by rw [hlocks]; rw [hlocks, locksTo_len] at hk; exact lock_len hk
 have hfirst := l02First_any m hok m.c.toNat (fun _ => False) (.slice none 0 0) []
 rw [genB_nil] at hfirst
 have hcc : ((m.c.toNat : Nat) : Int) = m.c := by omega
 have Hfirst := Lib.hid (And.intro hfirst hcc); clear hfirst hcc
 have Hkey := Lib.hid (And.intro hkey hkl); clear hkey hkl hmk
 have Hlocks := Lib.hid hlocks; clear hlocks
 have Hlk := Lib.hid hlk; clear hlk
 have Hf := Lib.hid (And.intro hf (And.intro hn (And.intro hok hc0))); clear hf hn hok hc0
 obtain ⟨W1, hW1, hB01, hz01, HZ01, hc01, hh01⟩ := box_facts W #[.int .i64 m.c, .int .i64 m.d, .int .i64 m.s, .int .i64 m.e, .int .i64 m.l, .slice a t.length c] 33
 have hV1 := (h.below hB01).any
 have hC1 := (hc.below hB01).any
 have hown0 := own_lit0 W1 W1.heap.size 44 1 (Nat.le_refl _)
 go_enter Tryz.func54, Tryz.ntmps54
 go_wp2_with fail
 rw [← hW1, show W.heap.size + 1 = W1.heap.size from HZ01.out.symm]
 have hbA : Below W1.heap.size W1 (W1.alloc (.cells #[] 44)) := (Below.refl _ _).alloc (Nat.le_refl _) _
 refine (l15Locks_any m _ _ t cuts n _ Hf.out.1 Hf.out.2.1 (hV1.below hbA) (hC1.below hbA)).mono ?_
 rintro e' wL ⟨lv, rfl, hLk0, hbL⟩
 rw [← Hlocks.out] at hLk0
 have hLk1 : LkAt W1.heap.size wL.heap.size (.slice (some ⟨W1.heap.size, 0, none⟩) 0 0) wL lv locks := ⟨hLk0.mono (fun b h1 h2 => ⟨by simp at h1; omega, h2⟩) (fun _ _ _ => rfl), fun g hg => .inl (by cases hg; rfl), Nat.le_refl _⟩
 obtain ⟨la, lc, rfl, hlm⟩ := hLk0.form
 have hBL := hbA.trans (hbL.mono (by simp))
 have hxL : ∀ o, wL.cell? ⟨W.heap.size, o, none⟩ = (#[.int .i64 m.c, .int .i64 m.d, .int .i64 m.s, .int .i64 m.e, .int .i64 m.l, .slice a t.length c] : Array Value)[o]? := fun o => by rw [(bcell hBL).1 _ _ hz01, hc01]
 have hownL := own_chg hown0 (Chg.of_below (F := fun _ => False) hbL) (fun _ _ h => h)
 have HW1 := Lib.hid hW1; clear hW1 hh01
 have Hc01 := Lib.hid hc01; clear hc01
 have HL := Lib.hid (And.intro hLk1 hownL); clear hLk1 hownL hown0 hLk0
 go_wp2_with fail
 refine (Hfirst.out.1 _ ⟨none, 0, rfl, Nat.le_refl _, Nat.zero_le _, fun k hk => by simp at hk⟩ (fun _ => .inl rfl) (by have := Hfirst.out.2; simp; omega) (fun k hk => by simp at hk)).mono ?_
 rintro e' wF ⟨kv, rfl, hkv, hbF⟩
 have hBF := hBL.trans (hbF.mono hBL.size)
 have hzL := hBL.size
 have hkv0 : (nextAns (keysOf m)).2 = true → V1 (fun b => (Value.slice (some ⟨W1.heap.size, 0, none⟩) 0 0).ownBlock ≠ some b ∧ W1.heap.size ≤ b) wF kv (nextAns (keysOf m)).1 := fun hh => (hkv hh).mono (fun b h1 h2 => by
  rcases h1 with h1 | h1
  ·exact absurd h1 id
  ·refine ⟨fun e => ?_, ?_⟩
   ·have e' : W1.heap.size = b := by simpa [Value.ownBlock] using e
    have := hbA.size; have := hbL.size; simp at *; omega
   ·have := hbA.size; have := hbL.size; simp at *; omega) (fun _ _ _ => rfl)
 have hLF : LkAt W1.heap.size wL.heap.size (.slice (some ⟨W1.heap.size, 0, none⟩) 0 0) wF (.slice la locks.length lc) locks := HL.out.1.below hbF
 have hownF := own_chg HL.out.2 (Chg.of_below (F := fun _ => False) hbF) (fun _ _ h => h)
 have HI := Lib.hid (And.intro hkv0 (And.intro hLF hownF)); clear hkv hkv0 hLF hownF HL hxL
 go_wp2_with fail
 go_loopw [7, 9, 10, 11, 12] (fun ou kv okv _ _ wr => ∃ (L1 L2 : List (List Int)) (vs : List Value), keysOf m = L1 ++ L2 ∧ okv = .bool (nextAns L2).2 ∧ ((nextAns L2).2 = true → V1 (fun b => ou.ownBlock ≠ some b ∧ W1.heap.size ≤ b) wr kv (nextAns L2).1) ∧ wr.ownsRow W1.heap.size 44 1 ou (selL locks cuts gb L1).length vs ∧ RowVs (fun b => ou.ownBlock ≠ some b ∧ W1.heap.size ≤ b) wr vs (selL locks cuts gb L1) ∧ LkAt W1.heap.size wL.heap.size ou wr (.slice la locks.length lc) locks ∧ Below W1.heap.size W1 wr) (fun _ kv okv _ _ wr => toCome m wr kv okv)
 case atStart => exact ⟨[], keysOf m, [], rfl, rfl, HI.out.1, HI.out.2.2, RowVs.nil, HI.out.2.1, hBF⟩
 case round =>
  obtain ⟨L1, L2, vs, hL, hok, hkv, hown, hR, hLk, hB⟩ := hrel
  obtain ⟨wo, rfl⟩ : ∃ wo, wo = wr := ⟨_, rfl⟩
  have hzr := hB.size
  have hselL := selL_length locks cuts gb L1
  have hLl : L1.length ≤ 262144 := by have := Hkey.out.2; rw [hL, List.length_append] at this; omega
  cases L2 with
  | nil =>
    rw [List.append_nil] at hL
    have hok' : _ = Value.bool false := hok
    subst hok'
    have hV4 := (own_V2g hown hR (fun _ h => h)).mono (S' := fun b => W.heap.size ≤ b) (fun b hb _ => by omega) (fun _ _ _ => rfl)
    rw [← hL] at hV4
    obtain ⟨oa, oc, rfl, ho1, ho2⟩ := own_form hown
    have HV4 := Lib.hid hV4; clear hV4 hkv hR hown hLk
    go_wp2_with fail
    go_ret
    exact ⟨_, rfl, HV4.out, hB01.trans (hB.mono (by omega))⟩
  | cons k r =>
    have hok' : _ = Value.bool true := hok
    subst hok'
    have hk1 := hkv rfl
    have hk1' : V1 _ wo _ k := hk1
    obtain ⟨hkn, hkc, hkr⟩ := Hkey.out.1 k (by rw [hL]; simp)
    have hbeh := keys_behind Hf.out.2.2.2 hL
    obtain ⟨ka, kc, rfl, hkm⟩ := hk1'.form
    have hkn2 : k.length ≤ n := by omega
    have Hk := Lib.hid (And.intro hkc (And.intro hkr hbeh)); clear hkc hkr hbeh hkv hkn
    have hL' : keysOf m = (L1 ++ [k]) ++ r := by rw [hL]; simp
    have HL' := Lib.hid (And.intro hL hL'); clear hL hL'
    have Hown := Lib.hid (And.intro hown hR); clear hown hR
    have hsn := selL_snoc locks cuts gb L1 k
    have Hsn := Lib.hid hsn; clear hsn
    have hxo : ∀ o, wo.cell? ⟨W.heap.size, o, none⟩ = (#[.int .i64 m.c, .int .i64 m.d, .int .i64 m.s, .int .i64 m.e, .int .i64 m.l, .slice a t.length c] : Array Value)[o]? := fun o => by rw [(bcell hB).1 _ _ hz01, Hc01.out]
    clear hk1
    go_wp2_with fail
    clear hxo
    go_loopw [11, 12] (fun ob j wn => ∃ q : Nat, q ≤ locks.length ∧ j = .int .i64 (q : Int) ∧ ob = .bool (openTo locks k q) ∧ Below wo.heap.size wo wn) (fun _ j _ => locks.length - (intOf j).toNat)
    case atStart => exact ⟨0, Nat.zero_le _, rfl, rfl, Below.refl _ _⟩
    case round =>
     obtain ⟨q, hq, rfl, rfl, hBn⟩ := hrel
     have hzn := hBn.size
     by_cases hqq : q < locks.length
     ·cases ho : openTo locks k q
      ·obtain ⟨b2, off2, a2, c2, rfl, _, hc2, hr2⟩ := (hLk.1.below hBn).cell hqq
       have hlen : k.length ≤ (getll locks q).length := by rw [Hlk.out q hqq]; exact hkn2
       have hst : openTo locks k (q + 1) = opensB (getll locks q) k := by rw [openTo, ho]; rfl
       have Hst := Lib.hid hst; clear hst
       have Ho := Lib.hid ho; clear ho
       go_wp2_with fail
       refine (l04Opens_any _ _ (getll locks q) k _ hr2 (hk1'.below hBn) hlen).mono ?_
       rintro e' w5 ⟨rfl, hb5⟩
       clear hc2 hr2
       go_wp2_with fail
       go_roundw
       case rel => exact ⟨q + 1, by omega, by go_num, by rw [Hst.out], hBn.trans (hb5.mono hzn)⟩
       case measure => simp [intOf]; omega
      ·have hst : openTo locks k (q + 1) = true := by rw [openTo, ho]; rfl
       have Hst := Lib.hid hst; clear hst
       have Ho := Lib.hid ho; clear ho
       go_wp2_with fail
       go_roundw
       case rel => exact ⟨q + 1, by omega, by go_num, by rw [Hst.out], hBn⟩
       case measure => simp [intOf]; omega
     ·obtain rfl : q = locks.length := by omega
      rw [openTo_all]
      have hBW := hB.trans (hBn.mono hzr)
      have hownW := own_chg Hown.out.1 (Chg.of_below (F := fun _ => False) hBn) (fun _ _ h => h)
      have hRW := RowVs.below Hown.out.2 hBn
      have hLkW := hLk.below hBn
      have hkW := hk1'.below hBn
      have hse : selK locks cuts gb k = ((decide (0 < ndoors locks k) == gb) && !hasL cuts k) := rfl
      have hslen : (selL locks cuts gb L1).length ≤ 262144 := by omega
      obtain ⟨o, ho⟩ : ∃ o, decide (0 < ndoors locks k) = o := ⟨_, rfl⟩
      rw [ho] at hse ⊢
      have Ho := Lib.hid ho; clear ho
      cases hog : (o == gb)
      ·have hsf : ¬ selK locks cuts gb k = true := by rw [hse, hog]; simp
       have Hsf := Lib.hid (And.intro hsf hse); clear hsf hse
       have hownN := hownW
       have hRN := hRW
       have hLkN := hLkW
       have hBN := hBW
       have hkN := hkW
       clear hownW hRW hLkW hBW hkW
       have hxN : ∀ o, wr.cell? ⟨W.heap.size, o, none⟩ = (#[.int .i64 m.c, .int .i64 m.d, .int .i64 m.s, .int .i64 m.e, .int .i64 m.l, .slice a t.length c] : Array Value)[o]? := fun o => by rw [(bcell hBN).1 _ _ hz01, Hc01.out]
       have hzN : W.heap.size < wr.heap.size := by have := hBN.size; omega
       have HN := Lib.hid (And.intro hownN (And.intro hRN (And.intro hLkN hBN))); clear hownN hRN hLkN hBN
       go_wp2_with fail
       refine (l02Next_any m Hf.out.2.2.1 _ k _ hkN Hk.out.1 Hk.out.2.1).mono ?_
       rintro e' wM ⟨kv', he', hkv', hbM⟩
       rw [Hk.out.2.2] at he' hkv'
       subst he'
       have hkv2 : (nextAns r).2 = true → V1 _ wM kv' (nextAns r).1 := fun hh => key_farC (C := fun b => W1.heap.size ≤ b) HN.out.1 (hkv' hh) (fun _ h => h) (fun b hb => by have := HN.out.2.2.2.size; omega)
       have HM := Lib.hid (And.intro hkv2 (And.intro (toCome_next Hf.out.2.2.2 hkv2 HL'.out.2) (toCome_more (m := m) hk1'))); clear hkv' hkv2 hxN
       obtain ⟨qb, hqb⟩ : ∃ qb, (nextAns r).2 = qb := ⟨_, rfl⟩
       rw [hqb]
       have Hqb := Lib.hid hqb; clear hqb
       go_wp2_with fail
       go_roundw
       case rel => exact ⟨L1 ++ [k], r, _, HL'.out.2, by rw [Hqb.out], HM.out.1, by rw [Hsn.out, if_neg Hsf.out.1]; exact own_chg HN.out.1 (Chg.of_below (F := fun _ => False) hbM) (fun _ _ h => h), by rw [Hsn.out, if_neg Hsf.out.1]; exact RowVs.below HN.out.2.1 hbM, HN.out.2.2.1.below hbM, HN.out.2.2.2.trans (hbM.mono HN.out.2.2.2.size)⟩
       case measure => rw [HM.out.2.2, Hk.out.2.2]; have := HM.out.2.1; rw [Hqb.out] at this; omega
      ·cases hh : hasL cuts k
       ·have hst : selK locks cuts gb k = true := by rw [hse, hog, hh]; rfl
        have Hst := Lib.hid (And.intro hst hse); clear hst hse
        have Hh := Lib.hid hh; clear hh
        go_wp2_with fail
        refine (l14Has_b _ _ cuts k _ _ Hh.out (hC1.below hBW) hkW).mono ?_
        rintro e' w6 ⟨rfl, nq, hw6⟩
        have hb6 : Below wr.heap.size wr w6 := by rw [hw6]; exact below_drewN (Below.refl _ _) _
        clear hw6
        have hown6 := own_chg hownW (Chg.of_below (F := fun _ => False) hb6) (fun _ _ h => h)
        have hR6 := RowVs.below hRW hb6
        have hLk6 := hLkW.below hb6
        have hB6 := hBW.trans (hb6.mono (by have := hBW.size; omega))
        have hk6 := hkW.below hb6
        have hz6 := hB6.size
        clear hownW hRW hLkW hBW hkW
        go_wp2_with ((at_builtin; refine wp_app1 _ rfl _ _ 24 rfl W1.heap.size 44 (.slice none 0 0) 24 Tryz.underlying24 inf_ints rfl u7 _ _ rfl hown6 (.slice ka k.length kc) _ rfl rfl (by omega) (by omega) (by omega) ?_; intro v1 w1 hown1 hgrow1 hblk1 hB1); have hBN := hB6.trans hB1; have hx1 : ∀ o, w1.cell? ⟨W.heap.size, o, none⟩ = (#[.int .i64 m.c, .int .i64 m.d, .int .i64 m.s, .int .i64 m.e, .int .i64 m.l, .slice a t.length c] : Array Value)[o]? := (fun o => by rw [(bcell hBN).1 _ _ hz01, Hc01.out]); have hz1 : W.heap.size < w1.heap.size := (by have := hBN.size; omega))
        clear hx1
        have hownN := hown1
        rw [show (selL locks cuts gb L1).length + 1 = (selL locks cuts gb L1 ++ [k]).length from (by simp)] at hownN
        have hkN : V1 (fun b => v1.ownBlock ≠ some b ∧ W1.heap.size ≤ b) w1 _ k := V1.farC hk6 hgrow1 hblk1
        have hRN := RowVs.snoc (RowVs.farC hR6 hgrow1 hblk1) hkN
        have hLkN := hLk6.grown hgrow1 hblk1
        clear hown6 hR6 hLk6 hB6 hk6 hown1 hgrow1 hblk1 hB1
        have hxN : ∀ o, w1.cell? ⟨W.heap.size, o, none⟩ = (#[.int .i64 m.c, .int .i64 m.d, .int .i64 m.s, .int .i64 m.e, .int .i64 m.l, .slice a t.length c] : Array Value)[o]? := fun o => by rw [(bcell hBN).1 _ _ hz01, Hc01.out]
        have hzN : W.heap.size < w1.heap.size := by have := hBN.size; omega
        have HN := Lib.hid (And.intro hownN (And.intro hRN (And.intro hLkN hBN))); clear hownN hRN hLkN hBN
        go_wp2_with fail
        refine (l02Next_any m Hf.out.2.2.1 _ k _ hkN Hk.out.1 Hk.out.2.1).mono ?_
        rintro e' wM ⟨kv', he', hkv', hbM⟩
        rw [Hk.out.2.2] at he' hkv'
        subst he'
        have hkv2 : (nextAns r).2 = true → V1 _ wM kv' (nextAns r).1 := fun hh => key_farC (C := fun b => W1.heap.size ≤ b) HN.out.1 (hkv' hh) (fun _ h => h) (fun b hb => by have := HN.out.2.2.2.size; omega)
        have HM := Lib.hid (And.intro hkv2 (And.intro (toCome_next Hf.out.2.2.2 hkv2 HL'.out.2) (toCome_more (m := m) hk1'))); clear hkv' hkv2 hxN
        obtain ⟨qb, hqb⟩ : ∃ qb, (nextAns r).2 = qb := ⟨_, rfl⟩
        rw [hqb]
        have Hqb := Lib.hid hqb; clear hqb
        go_wp2_with fail
        go_roundw
        case rel => exact ⟨L1 ++ [k], r, _, HL'.out.2, by rw [Hqb.out], HM.out.1, by rw [Hsn.out, if_pos Hst.out.1]; exact own_chg HN.out.1 (Chg.of_below (F := fun _ => False) hbM) (fun _ _ h => h), by rw [Hsn.out, if_pos Hst.out.1]; exact RowVs.below HN.out.2.1 hbM, HN.out.2.2.1.below hbM, HN.out.2.2.2.trans (hbM.mono HN.out.2.2.2.size)⟩
        case measure => rw [HM.out.2.2, Hk.out.2.2]; have := HM.out.2.1; rw [Hqb.out] at this; omega
       ·have hsf : ¬ selK locks cuts gb k = true := by rw [hse, hog, hh]; simp
        have Hsf := Lib.hid (And.intro hsf hse); clear hsf hse
        have Hh := Lib.hid hh; clear hh
        go_wp2_with fail
        refine (l14Has_b _ _ cuts k _ _ Hh.out (hC1.below hBW) hkW).mono ?_
        rintro e' w6 ⟨rfl, nq, hw6⟩
        have hb6 : Below wr.heap.size wr w6 := by rw [hw6]; exact below_drewN (Below.refl _ _) _
        clear hw6
        have hownN := own_chg hownW (Chg.of_below (F := fun _ => False) hb6) (fun _ _ h => h)
        have hRN := RowVs.below hRW hb6
        have hLkN := hLkW.below hb6
        have hBN := hBW.trans (hb6.mono (by have := hBW.size; omega))
        have hkN := hkW.below hb6
        clear hownW hRW hLkW hBW hkW
        have hxN : ∀ o, w6.cell? ⟨W.heap.size, o, none⟩ = (#[.int .i64 m.c, .int .i64 m.d, .int .i64 m.s, .int .i64 m.e, .int .i64 m.l, .slice a t.length c] : Array Value)[o]? := fun o => by rw [(bcell hBN).1 _ _ hz01, Hc01.out]
        have hzN : W.heap.size < w6.heap.size := by have := hBN.size; omega
        have HN := Lib.hid (And.intro hownN (And.intro hRN (And.intro hLkN hBN))); clear hownN hRN hLkN hBN
        go_wp2_with fail
        refine (l02Next_any m Hf.out.2.2.1 _ k _ hkN Hk.out.1 Hk.out.2.1).mono ?_
        rintro e' wM ⟨kv', he', hkv', hbM⟩
        rw [Hk.out.2.2] at he' hkv'
        subst he'
        have hkv2 : (nextAns r).2 = true → V1 _ wM kv' (nextAns r).1 := fun hh => key_farC (C := fun b => W1.heap.size ≤ b) HN.out.1 (hkv' hh) (fun _ h => h) (fun b hb => by have := HN.out.2.2.2.size; omega)
        have HM := Lib.hid (And.intro hkv2 (And.intro (toCome_next Hf.out.2.2.2 hkv2 HL'.out.2) (toCome_more (m := m) hk1'))); clear hkv' hkv2 hxN
        obtain ⟨qb, hqb⟩ : ∃ qb, (nextAns r).2 = qb := ⟨_, rfl⟩
        rw [hqb]
        have Hqb := Lib.hid hqb; clear hqb
        go_wp2_with fail
        go_roundw
        case rel => exact ⟨L1 ++ [k], r, _, HL'.out.2, by rw [Hqb.out], HM.out.1, by rw [Hsn.out, if_neg Hsf.out.1]; exact own_chg HN.out.1 (Chg.of_below (F := fun _ => False) hbM) (fun _ _ h => h), by rw [Hsn.out, if_neg Hsf.out.1]; exact RowVs.below HN.out.2.1 hbM, HN.out.2.2.1.below hbM, HN.out.2.2.2.trans (hbM.mono HN.out.2.2.2.size)⟩
        case measure => rw [HM.out.2.2, Hk.out.2.2]; have := HM.out.2.1; rw [Hqb.out] at this; omega
theorem l21Outsiders_any {S S' : Nat → Prop} (m : Mk) (u v : Value) (t cuts : List (List Int)) (n : Nat) (gb : Bool) (W : World) (hf : Fits m t cuts) (hn : (n : Int) = m.c) (h : V2 S W u t) (hc : V2 S' W v cuts) :
  Calls Tryz.prog 54 #[.agg #[.int .i64 m.c, .int .i64 m.d, .int .i64 m.s, .int .i64 m.e, .int .i64 m.l, u], v, .bool gb] W fun e' w' => ∃ v', e' = .returned v' ∧ V2 (fun b => b < w'.heap.size) w' v' (selL (locksTo n t cuts (getl t 0).length) cuts gb (keysOf m)) ∧ Below W.heap.size W w' := by
 refine (l21Outsiders_fr m u v t cuts n gb W hf hn h hc).mono ?_
 rintro e' w' ⟨v', rfl, h1, h2⟩
 exact ⟨v', rfl, h1.old, h2⟩
def Few (l : List Int) : Prop := l.length ≤ 1000 ∧ ∀ x ∈ l, 0 ≤ x ∧ x ≤ 1000000
theorem sum_take_bd {l : List Int} (h : Few l) (k : Nat) : 0 ≤ (l.take k).sum ∧ (l.take k).sum ≤ 1000000 * 1000 := by
 have := sum_bd (l := l.take k) (B := 1000000) fun x hx => h.2 x (List.mem_of_mem_take hx)
 have h2 : (l.take k).length ≤ 1000 := Nat.le_trans (List.length_take_le' _ _) h.1
 omega
theorem sum_any {S : Nat → Prop} (v : Value) (l : List Int) (W : World) (r : Int) (hr : l.sum = r) (h : V1 S W v l) (hs : Few l) :
  Calls Tryz.prog 116 #[v] W fun e' w' => e' = .returned (.int .i64 r) ∧ W = w' := by
 have hV := h
 obtain ⟨a, c, rfl, hm⟩ := h.form
 have Hr := Lib.hid hr; clear hr
 have Hs := Lib.hid hs; clear hs
 go_enter Tryz.func116, Tryz.ntmps116
 go_wp2_with fail
 go_loop [3, 5, 8] (fun s _ i => ∃ k : Nat, k ≤ l.length ∧ i = .int .i64 (k : Int) ∧ s = .int .i64 (l.take k).sum) (fun _ _ i => l.length - (intOf i).toNat)
 case atStart => exact ⟨0, Nat.zero_le _, rfl, rfl⟩
 case round =>
  obtain ⟨k, hk, rfl, rfl⟩ := hrel
  have hbd := sum_take_bd Hs.out k
  obtain ⟨q, hq⟩ : ∃ q, (l.take k).sum = q := ⟨_, rfl⟩
  rw [hq] at hbd ⊢
  have Hq := Lib.hid hq; clear hq
  by_cases hkk : k < l.length
  ·obtain ⟨b2, off2, rfl, _, hc2⟩ := hV.cell hkk
   have hx := Hs.out.2 _ (geti_mem hkk)
   have hst := sum_take hkk
   have Hst := Lib.hid hst; clear hst
   go_wp2_with fail
   go_round
   case rel => exact ⟨k + 1, by omega, by go_num, by rw [Hst.out, Hq.out]⟩
   case measure => simp [intOf]; omega
  ·obtain rfl : k = l.length := by omega
   go_wp2_with fail
   go_ret
   exact ⟨ret_int (by rw [← Hr.out, ← Hq.out, List.take_length]), rfl⟩
theorem cntL_drop (locks : List (List (List Int))) (ks : List (List Int)) (n : Nat) : (cntL locks ks 0 (n + 1)).drop 1 = cntL locks ks 1 n := by
 apply List.ext_getElem (by simp [cntL])
 intro i h1 h2
 simp [cntL, Nat.add_comm]
theorem cntL_few {locks : List (List (List Int))} {ks : List (List Int)} {lo n : Nat} (hn : n ≤ 1000) (hk : ks.length ≤ 1000000) : Few (cntL locks ks lo n) := by
 refine ⟨by rw [cntL_len]; exact hn, fun x hx => ?_⟩
 unfold cntL at hx
 rw [List.mem_map] at hx
 obtain ⟨j, _, rfl⟩ := hx
 have := cntN_le locks ks (lo + j)
 omega
/-- The outsiders that open some door, counted. -/
theorem ghosts_sum {locks : List (List (List Int))} {cuts ks : List (List Int)} {D : Nat} (hD : locks.length = D) : (cntL locks (outsOf cuts ks) 1 D).sum = ((selL locks cuts true ks).length : Int) := by
 rw [cnt_sum]
 congr 1
 unfold outsOf selL
 rw [List.countP_filter, List.countP_eq_length_filter]
 congr 1
 apply List.filter_congr
 intro k _
 unfold selK
 have := ndoors_le locks k
 have e : decide (1 ≤ ndoors locks k ∧ ndoors locks k < 1 + D) = decide (0 < ndoors locks k) := by rw [decide_eq_decide]; omega
 rw [e]
 cases decide (0 < ndoors locks k) <;> rfl
/-- The number of ghosts of a system. -/
def sysGhostAns (m : Mk) (t cuts : List (List Int)) : Int × Int :=
 if designC m t cuts ≠ 0 then (0, designC m t cuts) else (((selL (locksTo m.c.toNat t cuts (getl t 0).length) cuts true (keysOf m)).length : Nat), 0)
set_option maxRecDepth 100000 in
theorem CountSystemGhosts_any {S S' : Nat → Prop} (m : Mk) (u v : Value) (t cuts : List (List Int)) (W : World) (h : V2 S W u t) (hc : V2 S' W v cuts) :
  Calls Tryz.prog 50 #[.agg #[.int .i64 m.c, .int .i64 m.d, .int .i64 m.s, .int .i64 m.e, .int .i64 m.l, u], v] W fun e' w' => e' = .returned (.tuple #[.int .i64 (sysGhostAns m t cuts).1, .int .i64 (sysGhostAns m t cuts).2]) ∧ Below W.heap.size W w' := by
 obtain ⟨a, c, rfl, hmx⟩ := h.form
 obtain ⟨a', c', rfl, hmx'⟩ := hc.form
 obtain ⟨W1, hW1, hB01, hz01, HZ01, hc01, hh01⟩ := box_facts W #[.int .i64 m.c, .int .i64 m.d, .int .i64 m.s, .int .i64 m.e, .int .i64 m.l, .slice a t.length c] 33
 have hV1 := (h.below hB01).any
 have hC1 := (hc.below hB01).any
 have hcode := designCode_any m _ _ t cuts W1 hV1 hC1
 by_cases hp : designC m t cuts = 0
 ·rw [hp] at hcode
  have hf := (design_fits hp).1
  have hmc := mc_nat hf.ok
  have hdoors := hf.doors
  have hkl := keysOf_length hf.ok
  have hol := outsOf_length cuts (keysOf m)
  obtain ⟨locks, hlocks⟩ : ∃ x, x = locksTo m.c.toNat t cuts (getl t 0).length := ⟨_, rfl⟩
  obtain ⟨D, hD⟩ : ∃ D, (getl t 0).length = D := ⟨_, rfl⟩
  have hll : locks.length = D := by rw [hlocks, locksTo_len, hD]
  have hfin : sysGhostAns m t cuts = ((((selL locks cuts true (keysOf m)).length : Nat) : Int), 0) := by unfold sysGhostAns; rw [if_neg (by rw [hp]; decide), ← hlocks]
  have hsum := ghosts_sum (cuts := cuts) (ks := keysOf m) hll
  have hpr := profileOf_any (S := fun _ => True) (S' := fun _ => True) m (.slice a t.length c) (.slice a' cuts.length c') t cuts m.c.toNat
  rw [← hlocks, hD] at hpr
  rw [hfin]
  rw [hD] at hdoors
  obtain ⟨r, hr⟩ : ∃ r, (((selL locks cuts true (keysOf m)).length : Nat) : Int) = r := ⟨_, rfl⟩
  rw [hr] at hsum ⊢
  have hfew := cntL_few (locks := locks) (ks := outsOf cuts (keysOf m)) (lo := 1) (n := D) (by omega) (by omega)
  have Hf := Lib.hid (And.intro hf (And.intro hmc (And.intro hpr (And.intro hsum hfew)))); clear hf hmc hpr hsum hfew hol hkl
  have Hp := Lib.hid (And.intro hp (And.intro hfin (And.intro hlocks (And.intro hD (And.intro hll hr))))); clear hp hfin hlocks hD hll hr
  have Hcode := Lib.hid hcode; clear hcode
  go_enter Tryz.func50, Tryz.ntmps50
  go_wp2_with fail
  rw [← hW1]
  refine Hcode.out.mono ?_
  rintro e' w2 ⟨rfl, hb2⟩
  have hx2 : ∀ o, w2.cell? ⟨W.heap.size, o, none⟩ = (#[.int .i64 m.c, .int .i64 m.d, .int .i64 m.s, .int .i64 m.e, .int .i64 m.l, .slice a t.length c] : Array Value)[o]? := fun o => by rw [(bcell hb2).1 _ _ hz01, hc01]
  have hz2 : W.heap.size < w2.heap.size := by have := hb2.size; omega
  clear hc01 hh01
  go_wp2_with fail
  refine (Hf.out.2.2.1 _ Hf.out.1 Hf.out.2.1 (hV1.below hb2) (hC1.below hb2)).mono ?_
  rintro e' w3 ⟨G, rfl, hG, hblk, hb3⟩
  have hx := hblk.x1 (off := 1) (by rw [cntL_len]; omega) (by rw [cntL_len]; omega)
  rw [cntL_drop, cntL_len] at hx
  have Hx := Lib.hid (hx.v1 (S := fun _ => True) (fun _ => trivial)); clear hx hblk hx2
  have h1D : (1 : Int) ≤ ((D : Int) + 1) := by omega
  go_wp2_with fail
  refine (sum_any _ (cntL locks (outsOf cuts (keysOf m)) 1 D) _ r Hf.out.2.2.2.1 Hx.out Hf.out.2.2.2.2).mono ?_
  rintro e' w4 ⟨rfl, rfl⟩
  go_wp2_with fail
  go_ret2
  exact ⟨rfl, hB01.trans ((hb2.trans (hb3.mono hb2.size)).mono (by omega))⟩
 ·have hfin : sysGhostAns m t cuts = (0, designC m t cuts) := by unfold sysGhostAns; rw [if_pos hp]; (try rfl)
  have e1 : (designC m t cuts != 0) = true := by simp [hp]
  rw [hfin]
  have Hp := Lib.hid (And.intro hp hfin); clear hp hfin
  generalize designC m t cuts = pc at *
  go_enter Tryz.func50, Tryz.ntmps50
  go_wp2_with fail
  rw [← hW1]
  refine hcode.mono ?_
  rintro e' w2 ⟨rfl, hb2⟩
  clear hc01 hh01
  go_wp2_with fail
  go_ret2
  exact ⟨rfl, hB01.trans (hb2.mono (by omega))⟩
theorem likeInts_q {S S' : Nat → Prop} (va vb : Value) (a b : List Int) (W : World) (ha : V1 S W va a) (hb : V1 S' W vb b) :
  Calls Tryz.prog 28 #[va, vb] W fun e' w' => e' = .returned (.bool (decide (a = b))) ∧ ∃ n, w' = W.drewN n := by
 have hA := ha
 have hB := hb
 obtain ⟨pa, ca, rfl, hma⟩ := ha.form
 obtain ⟨pb, cb, rfl, hmb⟩ := hb.form
 by_cases hl : a.length = b.length
 ·have hle : ((a.length : Int) == (b.length : Int)) = true := by simp; omega
  have hle2 : ((a.length : Int) != (b.length : Int)) = false := by simp; omega
  have Hl := Lib.hid hl; clear hl
  go_enter Tryz.func28, Tryz.ntmps28
  go_wp2_with fail
  go_loopw [5] (fun i wr => ∃ (k n : Nat), k ≤ a.length ∧ i = .int .i64 k ∧ a.take k = b.take k ∧ wr = W.drewN n) (fun i _ => a.length - (intOf i).toNat)
  case atStart => exact ⟨0, 0, Nat.zero_le _, rfl, rfl, rfl⟩
  case round =>
   obtain ⟨k, n, hk, rfl, hpre, rfl⟩ := hrel
   have Hpre := Lib.hid hpre; clear hpre
   by_cases hkk : k < a.length
   ·have hkb : k < b.length := by rw [← Hl.out]; exact hkk
    obtain ⟨b1, off1, rfl, _, hc1⟩ := hA.cell hkk
    obtain ⟨b2, off2, rfl, _, hc2⟩ := hB.cell hkb
    by_cases he : geti a k = geti b k
    ·have e1 : (geti a k == geti b k) = true := by simp [he]
     have e2 : (geti a k != geti b k) = false := by simp [he]
     have He := Lib.hid he; clear he
     go_wp2_with fail
     go_quiet (fail)
     go_wp2_with fail
     go_roundw
     case rel => exact ⟨k + 1, _, by omega, by go_num, by rw [take_geti hkk, take_geti hkb, Hpre.out, He.out], rfl⟩
     case measure => simp [intOf]; omega
    ·have hne : decide (a = b) = false := decide_eq_false (fun e => he (by rw [e]))
     have e1 : (geti a k == geti b k) = false := by simp [he]
     have e2 : (geti a k != geti b k) = true := by simp [he]
     have Hne := Lib.hid hne; clear hne
     have He := Lib.hid he; clear he
     go_wp2_with fail
     go_quiet (fail)
     go_wp2_with fail
     go_ret
     exact ⟨ret_bool Hne.out.symm, _, by first | rfl | rw [World.drewN_drewN]⟩
   ·have hab : a = b := by
     have := Hpre.out
     rw [List.take_of_length_le (by omega), List.take_of_length_le (by rw [← Hl.out]; omega)] at this
     exact this
    have heq : decide (a = b) = true := decide_eq_true hab
    have Heq := Lib.hid heq; clear heq hab
    go_wp2_with fail
    go_ret
    exact ⟨ret_bool Heq.out.symm, _, rfl⟩
 ·have hne : decide (a = b) = false := decide_eq_false (fun e => hl (by rw [e]))
  rw [hne]
  have hne2 : ((a.length : Int) == (b.length : Int)) = false := by simp; omega
  have hne3 : ((a.length : Int) != (b.length : Int)) = true := by simp; omega
  clear hne
  go_enter Tryz.func28, Tryz.ntmps28
  go_wp2_with fail
  go_ret
  exact ⟨rfl, 0, rfl⟩
theorem likeInts_b {S S' : Nat → Prop} (va vb : Value) (a b : List Int) (W : World) (r : Bool) (hr : decide (a = b) = r) (ha : V1 S W va a) (hb : V1 S' W vb b) :
  Calls Tryz.prog 28 #[va, vb] W fun e' w' => e' = .returned (.bool r) ∧ ∃ n, w' = W.drewN n := by
 subst hr; exact likeInts_q va vb a b W ha hb
theorem likeLists_q {S S' : Nat → Prop} (va vb : Value) (a b : List (List Int)) (W : World) (ha : V2 S W va a) (hb : V2 S' W vb b) :
  Calls Tryz.prog 30 #[va, vb] W fun e' w' => e' = .returned (.bool (decide (a = b))) ∧ ∃ n, w' = W.drewN n := by
 have hA := ha
 have hB := hb
 obtain ⟨pa, ca, rfl, hma⟩ := ha.form
 obtain ⟨pb, cb, rfl, hmb⟩ := hb.form
 by_cases hl : a.length = b.length
 ·have hle : ((a.length : Int) == (b.length : Int)) = true := by simp; omega
  have hle2 : ((a.length : Int) != (b.length : Int)) = false := by simp; omega
  have Hl := Lib.hid hl; clear hl
  go_enter Tryz.func30, Tryz.ntmps30
  go_wp2_with fail
  go_loopw [5] (fun i wr => ∃ (k n : Nat), k ≤ a.length ∧ i = .int .i64 k ∧ a.take k = b.take k ∧ wr = W.drewN n) (fun i _ => a.length - (intOf i).toNat)
  case atStart => exact ⟨0, 0, Nat.zero_le _, rfl, rfl, rfl⟩
  case round =>
   obtain ⟨k, n, hk, rfl, hpre, rfl⟩ := hrel
   have Hpre := Lib.hid hpre; clear hpre
   by_cases hkk : k < a.length
   ·have hkb : k < b.length := by rw [← Hl.out]; exact hkk
    obtain ⟨b1, off1, a1, c1, rfl, _, hc1, hr1⟩ := hA.cell hkk
    obtain ⟨b2, off2, a2, c2, rfl, _, hc2, hr2⟩ := hB.cell hkb
    by_cases he : getl a k = getl b k
    ·have e1 : decide (getl a k = getl b k) = true := decide_eq_true he
     have He := Lib.hid he; clear he
     have E1 := Lib.hid e1; clear e1
     go_wp2_with fail
     go_quiet ((go_at_call 28; exact quiet_at (likeInts_b _ _ _ _ _ _ E1.out (V1.drewN hr1) (V1.drewN hr2))))
     go_wp2_with fail
     go_roundw
     case rel => exact ⟨k + 1, _, by omega, by go_num, by rw [take_getl hkk, take_getl hkb, Hpre.out, He.out], by first | rfl | rw [World.drewN_drewN]⟩
     case measure => simp [intOf]; omega
    ·have hne : decide (a = b) = false := decide_eq_false (fun e => he (by rw [e]))
     have e1 : decide (getl a k = getl b k) = false := decide_eq_false he
     have Hne := Lib.hid hne; clear hne
     have He := Lib.hid he; clear he
     have E1 := Lib.hid e1; clear e1
     go_wp2_with fail
     go_quiet ((go_at_call 28; exact quiet_at (likeInts_b _ _ _ _ _ _ E1.out (V1.drewN hr1) (V1.drewN hr2))))
     go_wp2_with fail
     go_ret
     exact ⟨ret_bool Hne.out.symm, _, by first | rfl | rw [World.drewN_drewN]⟩
   ·have hab : a = b := by
     have := Hpre.out
     rw [List.take_of_length_le (by omega), List.take_of_length_le (by rw [← Hl.out]; omega)] at this
     exact this
    have heq : decide (a = b) = true := decide_eq_true hab
    have Heq := Lib.hid heq; clear heq hab
    go_wp2_with fail
    go_ret
    exact ⟨ret_bool Heq.out.symm, _, rfl⟩
 ·have hne : decide (a = b) = false := decide_eq_false (fun e => hl (by rw [e]))
  rw [hne]
  have hne2 : ((a.length : Int) == (b.length : Int)) = false := by simp; omega
  have hne3 : ((a.length : Int) != (b.length : Int)) = true := by simp; omega
  clear hne
  go_enter Tryz.func30, Tryz.ntmps30
  go_wp2_with fail
  go_ret
  exact ⟨rfl, 0, rfl⟩
theorem likeLists_b {S S' : Nat → Prop} (va vb : Value) (a b : List (List Int)) (W : World) (r : Bool) (hr : decide (a = b) = r) (ha : V2 S W va a) (hb : V2 S' W vb b) :
  Calls Tryz.prog 30 #[va, vb] W fun e' w' => e' = .returned (.bool r) ∧ ∃ n, w' = W.drewN n := by
 subst hr; exact likeLists_q va vb a b W ha hb
theorem big_any {S : Nat → Prop} (v : Value) (l : List Int) (W : World) (r : Bool) (hr : decide (4096 < l.length) = r) (h : VB S W v l) :
  Calls Tryz.prog 18 #[v] W fun e' w' => e' = .returned (.bool r) ∧ W = w' := by
 obtain ⟨a, c, rfl, hm⟩ := h.form
 clear h
 have hr2 : decide ((4096 : Int) < (l.length : Int)) = r := by rw [← hr]; exact decide_eq_decide.2 (by omega)
 go_enter Tryz.func18, Tryz.ntmps18
 go_wp2_with fail
 go_ret
 first | exact ⟨rfl, rfl⟩ | exact ⟨ret_bool hr, rfl⟩ | exact ⟨ret_bool hr2, rfl⟩
theorem likeLists_w {S S' : Nat → Prop} (va vb : Value) (a b : List (List Int)) (W : World) (r : Bool) (hr : decide (a = b) = r) (ha : V2 S W va a) (hb : V2 S' W vb b) :
  Calls Tryz.prog 30 #[va, vb] W fun e' w' => e' = .returned (.bool r) ∧ Below W.heap.size W w' :=
 (likeLists_b va vb a b W r hr ha hb).mono fun _ _ ⟨h1, n, h2⟩ => ⟨h1, by rw [h2]; exact below_drewN (Below.refl _ _) n⟩
end Go.Proofs.YtmjplkbmhdkggaaGreat
