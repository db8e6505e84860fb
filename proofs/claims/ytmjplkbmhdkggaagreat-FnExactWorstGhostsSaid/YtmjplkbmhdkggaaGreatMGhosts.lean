/- All outsiders that open some door, or none: as the reference finds them. No conditions. -/
import Derived.Laws.OwnMore
import Derived.Test.YtmjplkbmhdkggaaGreatMEach5
import Derived.Test.YtmjplkbmhdkggaaGreatMOuts
import Derived.Test.YtmjplkbmhdkggaaGreatMShelf0
import Derived.Test.YtmjplkbmhdkggaaGreatMHullR
import Derived.Test.YtmjplkbmhdkggaaGreatMCopy
namespace Go.Proofs.YtmjplkbmhdkggaaGreat
open Go.RowKit
set_option linter.unusedVariables false
set_option linter.unusedSimpArgs false
theorem RowVs.mono {S S' : Nat → Prop} {w : World} {vs : List Value} {ls : List (List Int)} (h : RowVs S w vs ls) (hS : ∀ b, S b → b < w.heap.size → S' b) : RowVs S' w vs ls :=
 ⟨h.1, fun k hk => by obtain ⟨ev, h1, h2⟩ := h.2 k hk; exact ⟨ev, h1, V1.mono h2 hS (fun _ _ _ => rfl)⟩⟩
def openTo (locks : List (List (List Int))) (key : List Int) : Nat → Bool
 | 0 => false
 | k + 1 => openTo locks key k || opensB (getll locks k) key
theorem openTo_iff {locks : List (List (List Int))} {key : List Int} : ∀ {k}, openTo locks key k = true ↔ 0 < (doorsTo locks key k).length
 | 0 => by simp [openTo, doorsTo]
 | k + 1 => by
   rw [openTo, Bool.or_eq_true, openTo_iff (k := k), doorsTo]
   by_cases h : opensB (getll locks k) key = true
   ·simp [h]
   ·simp [h]
theorem openTo_all (locks : List (List (List Int))) (key : List Int) : openTo locks key locks.length = decide (0 < ndoors locks key) := by
 rw [Bool.eq_iff_iff, openTo_iff, decide_eq_true_eq]; rfl
/-- An outsider that opens some door, or none. -/
def selK (locks : List (List (List Int))) (cuts : List (List Int)) (g : Bool) (k : List Int) : Bool := (decide (0 < ndoors locks k) == g) && !hasL cuts k
def selL (locks : List (List (List Int))) (cuts : List (List Int)) (g : Bool) (ks : List (List Int)) : List (List Int) := ks.filter (selK locks cuts g)
theorem selL_snoc (locks : List (List (List Int))) (cuts : List (List Int)) (g : Bool) (ks : List (List Int)) (k : List Int) : selL locks cuts g (ks ++ [k]) = if selK locks cuts g k = true then selL locks cuts g ks ++ [k] else selL locks cuts g ks := by
 unfold selL
 rw [List.filter_append]
 cases h : selK locks cuts g k <;> simp [h]
theorem selL_length (locks : List (List (List Int))) (cuts : List (List Int)) (g : Bool) (ks : List (List Int)) : (selL locks cuts g ks).length ≤ ks.length := List.length_filter_le _ _
theorem toCome_next {m : Mk} {w : World} {kv : Value} {S : Nat → Prop} {L r : List (List Int)} (hc : 0 ≤ m.c) (h : (nextAns r).2 = true → V1 S w kv (nextAns r).1) (hL : keysOf m = L ++ r) : toCome m w kv (.bool (nextAns r).2) ≤ r.length := by
 cases r with
 | nil => rw [show (nextAns []).2 = false from rfl, toCome_last]; exact Nat.zero_le _
 | cons k r =>
   have h1 : V1 S w kv k := h rfl
   rw [show (nextAns (k :: r)).2 = true from rfl, toCome_more h1, keys_behind hc hL]
   exact Nat.le_refl _
theorem V1.far {w w1 : World} {ou v1 kv : Value} {k : List Int} (h : V1 (fun b => ou.ownBlock ≠ some b) w kv k) (hg : w.grownBy w1 ou.ownBlock) (hblk : v1.ownBlock = ou.ownBlock ∨ ∃ g, v1.ownBlock = some g ∧ w.heap.size ≤ g) : V1 (fun b => v1.ownBlock ≠ some b) w1 kv k :=
 h.mono (fun b h1 h2 e => by
  rcases hblk with e1 | ⟨g, e1, hge⟩
  ·exact h1 (e1.symm.trans e)
  ·rw [e] at e1; cases e1; omega) (grow_keep hg fun g hgg hS => hS hgg)
theorem RowVs.far {w w1 : World} {ou v1 : Value} {vs : List Value} {ls : List (List Int)} (h : RowVs (fun b => ou.ownBlock ≠ some b) w vs ls) (hg : w.grownBy w1 ou.ownBlock) (hblk : v1.ownBlock = ou.ownBlock ∨ ∃ g, v1.ownBlock = some g ∧ w.heap.size ≤ g) : RowVs (fun b => v1.ownBlock ≠ some b) w1 vs ls :=
 ⟨h.1, fun k hk => by obtain ⟨ev, h1, h2⟩ := h.2 k hk; exact ⟨ev, h1, V1.far h2 hg hblk⟩⟩
theorem key_farC {C S : Nat → Prop} {w w' : World} {ou kv : Value} {base n : Nat} {e : TypeId} {xs : List Value} {k : List Int} (hown : w.ownsRow base e 1 ou n xs) (h : V1 (fun b => S b ∨ w.heap.size ≤ b) w' kv k) (hS : ∀ b, ¬ S b) (hC : ∀ b, w.heap.size ≤ b → C b) : V1 (fun b => ou.ownBlock ≠ some b ∧ C b) w' kv k :=
 h.mono (fun b h1 _ => by
  rcases h1 with h2 | h2
  ·exact absurd h2 (hS b)
  ·exact ⟨fun e => by have := (hown.lt b e).2; omega, hC b h2⟩) (fun _ _ _ => rfl)
theorem V1.farC {C : Nat → Prop} {w w1 : World} {ou v1 kv : Value} {k : List Int} (h : V1 (fun b => ou.ownBlock ≠ some b ∧ C b) w kv k) (hg : w.grownBy w1 ou.ownBlock) (hblk : v1.ownBlock = ou.ownBlock ∨ ∃ g, v1.ownBlock = some g ∧ w.heap.size ≤ g) : V1 (fun b => v1.ownBlock ≠ some b ∧ C b) w1 kv k :=
 h.mono (fun b h1 h2 => ⟨fun e => by
  rcases hblk with e1 | ⟨g, e1, hge⟩
  ·exact h1.1 (e1.symm.trans e)
  ·rw [e] at e1; cases e1; omega, h1.2⟩) (grow_keep hg fun g hgg hS => hS.1 hgg)
theorem RowVs.farC {C : Nat → Prop} {w w1 : World} {ou v1 : Value} {vs : List Value} {ls : List (List Int)} (h : RowVs (fun b => ou.ownBlock ≠ some b ∧ C b) w vs ls) (hg : w.grownBy w1 ou.ownBlock) (hblk : v1.ownBlock = ou.ownBlock ∨ ∃ g, v1.ownBlock = some g ∧ w.heap.size ≤ g) : RowVs (fun b => v1.ownBlock ≠ some b ∧ C b) w1 vs ls :=
 ⟨h.1, fun k hk => by obtain ⟨ev, h1, h2⟩ := h.2 k hk; exact ⟨ev, h1, V1.farC h2 hg hblk⟩⟩
theorem own_V2g {C : Nat → Prop} {w : World} {B : Nat} {e : TypeId} {v : Value} {n : Nat} {vs : List Value} {ls : List (List Int)} (h : w.ownsRow B e 1 v n vs) (hr : RowVs (fun b => v.ownBlock ≠ some b ∧ C b) w vs ls) (hC : ∀ b, B ≤ b → C b) : V2 C w v ls := by
 obtain ⟨hl, h⟩ := h
 have hn : n = ls.length := by have := hr.1; omega
 subst hn
 rcases h with ⟨rfl, h0⟩ | ⟨g, cap, cur, rfl, hb, hh, hc, hm, hs, ht⟩
 ·exact ⟨none, 0, by rw [h0], by omega, Nat.zero_le _, fun k hk => by omega⟩
 ·refine ⟨_, _, rfl, hc, hm, fun k hk => ?_⟩
  obtain ⟨ev, h1, h2⟩ := hr.2 k hk
  refine ⟨g, 0, ev, rfl, hC g hb, ?_, h2.mono (fun b hb _ => hb.2) (fun _ _ _ => rfl)⟩
  have h3 : (cur.toList.take (ls.length * 1))[k]? = vs[k]? := by rw [ht]
  rw [List.getElem?_take, if_pos (by omega), h1] at h3
  rw [cell_of_block hh, Nat.zero_add, ← Array.getElem?_toList, h3]
set_option maxRecDepth 100000 in
set_option maxHeartbeats 4000000 in
theorem l21Outsiders_fr {S S' : Nat → Prop} (m : Mk) (u v : Value) (t cuts : List (List Int)) (n : Nat) (gb : Bool) (W : World) (hf : Fits m t cuts) (hn : (n : Int) = m.c) (h : V2 S W u t) (hc : V2 S' W v cuts) :
  Calls Tryz.prog 54 #[.agg #[.int .i64 m.c, .int .i64 m.d, .int .i64 m.s, .int .i64 m.e, .int .i64 m.l, u], v, .bool gb] W fun e' w' => ∃ v', e' = .returned v' ∧ V2 (fun b => W.heap.size ≤ b) w' v' (selL (locksTo n t cuts (getl t 0).length) cuts gb (keysOf m)) ∧ Below W.heap.size W w' := by
 obtain ⟨a, c, rfl, hmx⟩ := h.form
 obtain ⟨a', c', rfl, hmx'⟩ := hc.form
 have hdoors := hf.doors
 have hok := hf.ok
 have hkl := keysOf_length hok
 have hmk := Mk.ok_iff.1 hok
 have hc0 : 0 ≤ m.c := by omega
 have hkey : ∀ k, k ∈ keysOf m → k.length = n ∧ (k.length : Int) = m.c ∧ ∀ i, i < k.length → 0 ≤ geti k i ∧ geti k i ≤ 7 := fun k hk => by
  have h1 := isKey_iff.1 ((mem_keysOf hc0).1 hk)
  refine ⟨by omega, h1.1, fun i hi => ?_⟩
  have := h1.2.1 _ (geti_mem hi)
  omega
 obtain ⟨locks, hlocks⟩ : ∃ x, x = locksTo n t cuts (getl t 0).length := ⟨_, rfl⟩
 rw [← hlocks]
 have hll : locks.length ≤ 12 := by rw [hlocks, locksTo_len]; omega
 have hlk : ∀ k, k < locks.length → (getll locks k).length = n := fun k hk => by rw [hlocks]; rw [hlocks, locksTo_len] at hk; exact lock_len hk
 have hfirst := l02First_any m hok m.c.toNat (fun _ => False) (.slice none 0 0) []
 rw [genB_nil] at hfirst
 have hcc : ((m.c.toNat : Nat) : Int) = m.c := by omega
 have Hfirst := Lib.hid (And.intro hfirst hcc); clear hfirst hcc
 have Hkey := Lib.hid (And.intro hkey hkl); clear hkey hkl hmk
 have Hlocks := Lib.hid hlocks; clear hlocks
 have Hlk := Lib.hid hlk; clear hlk
 have Hf := Lib.hid (And.intro hf (And.intro hn (And.intro hok hc0))); clear hf hn hok hc0
 obtain ⟨W1, hW1, hB01, hz01, HZ01, hc01, hh01⟩ := box_facts W #[.int .i64 m.c, .int .i64 m.d, .int .i64 m.s, .int .i64 m.e, .int .i64 m.l, .slice a t.length c] 33
 have hV1 := (h.below hB01).any
 have hC1 := (hc.below hB01).any
 have hown0 := own_lit0 W1 W1.heap.size 44 1 (Nat.le_refl _)
 go_enter Tryz.func54, Tryz.ntmps54
 go_wp2_with fail
 rw [← hW1, show W.heap.size + 1 = W1.heap.size from HZ01.out.symm]
 have hbA : Below W1.heap.size W1 (W1.alloc (.cells #[] 44)) := (Below.refl _ _).alloc (Nat.le_refl _) _
 refine (l15Locks_any m _ _ t cuts n _ Hf.out.1 Hf.out.2.1 (hV1.below hbA) (hC1.below hbA)).mono ?_
 rintro e' wL ⟨lv, rfl, hLk0, hbL⟩
 rw [← Hlocks.out] at hLk0
 have hLk1 : LkAt W1.heap.size wL.heap.size (.slice (some ⟨W1.heap.size, 0, none⟩) 0 0) wL lv locks := ⟨hLk0.mono (fun b h1 h2 => ⟨by simp at h1; omega, h2⟩) (fun _ _ _ => rfl), fun g hg => .inl (by cases hg; rfl), Nat.le_refl _⟩
 obtain ⟨la, lc, rfl, hlm⟩ := hLk0.form
 have hBL := hbA.trans (hbL.mono (by simp))
 have hxL : ∀ o, wL.cell? ⟨W.heap.size, o, none⟩ = (#[.int .i64 m.c, .int .i64 m.d, .int .i64 m.s, .int .i64 m.e, .int .i64 m.l, .slice a t.length c] : Array Value)[o]? := fun o => by rw [(bcell hBL).1 _ _ hz01, hc01]
 have hownL := own_chg hown0 (Chg.of_below (F := fun _ => False) hbL) (fun _ _ h => h)
 have HW1 := Lib.hid hW1; clear hW1 hh01
 have Hc01 := Lib.hid hc01; clear hc01
 have HL := Lib.hid (And.intro hLk1 hownL); clear hLk1 hownL hown0 hLk0
 go_wp2_with fail
 refine (Hfirst.out.1 _ ⟨none, 0, rfl, Nat.le_refl _, Nat.zero_le _, fun k hk => by simp at hk⟩ (fun _ => .inl rfl) (by have := Hfirst.out.2; simp; omega) (fun k hk => by simp at hk)).mono ?_
 rintro e' wF ⟨kv, rfl, hkv, hbF⟩
 have hBF := hBL.trans (hbF.mono hBL.size)
 have hzL := hBL.size
 have hkv0 : (nextAns (keysOf m)).2 = true → V1 (fun b => (Value.slice (some ⟨W1.heap.size, 0, none⟩) 0 0).ownBlock ≠ some b ∧ W1.heap.size ≤ b) wF kv (nextAns (keysOf m)).1 := fun hh => (hkv hh).mono (fun b h1 h2 => by
  rcases h1 with h1 | h1
  ·exact absurd h1 id
  ·refine ⟨fun e => ?_, ?_⟩
   ·have e' : W1.heap.size = b := by simpa [Value.ownBlock] using e
    have := hbA.size; have := hbL.size; simp at *; omega
   ·have := hbA.size; have := hbL.size; simp at *; omega) (fun _ _ _ => rfl)
 have hLF : LkAt W1.heap.size wL.heap.size (.slice (some ⟨W1.heap.size, 0, none⟩) 0 0) wF (.slice la locks.length lc) locks := HL.out.1.below hbF
 have hownF := own_chg HL.out.2 (Chg.of_below (F := fun _ => False) hbF) (fun _ _ h => h)
 have HI := Lib.hid (And.intro hkv0 (And.intro hLF hownF)); clear hkv hkv0 hLF hownF HL hxL
 go_wp2_with fail
 go_loopw [7, 9, 10, 11, 12] (fun ou kv okv _ _ wr => ∃ (L1 L2 : List (List Int)) (vs : List Value), keysOf m = L1 ++ L2 ∧ okv = .bool (nextAns L2).2 ∧ ((nextAns L2).2 = true → V1 (fun b => ou.ownBlock ≠ some b ∧ W1.heap.size ≤ b) wr kv (nextAns L2).1) ∧ wr.ownsRow W1.heap.size 44 1 ou (selL locks cuts gb L1).length vs ∧ RowVs (fun b => ou.ownBlock ≠ some b ∧ W1.heap.size ≤ b) wr vs (selL locks cuts gb L1) ∧ LkAt W1.heap.size wL.heap.size ou wr (.slice la locks.length lc) locks ∧ Below W1.heap.size W1 wr) (fun _ kv okv _ _ wr => toCome m wr kv okv)
 case atStart => exact ⟨[], keysOf m, [], rfl, rfl, HI.out.1, HI.out.2.2, RowVs.nil, HI.out.2.1, hBF⟩
 case round =>
  obtain ⟨L1, L2, vs, hL, hok, hkv, hown, hR, hLk, hB⟩ := hrel
  obtain ⟨wo, rfl⟩ : ∃ wo, wo = wr := ⟨_, rfl⟩
  have hzr := hB.size
  have hselL := selL_length locks cuts gb L1
  have hLl : L1.length ≤ 262144 := by have := Hkey.out.2; rw [hL, List.length_append] at this; omega
  cases L2 with
  | nil =>
    rw [List.append_nil] at hL
    have hok' : _ = Value.bool false := hok
    subst hok'
    have hV4 := (own_V2g hown hR (fun _ h => h)).mono (S' := fun b => W.heap.size ≤ b) (fun b hb _ => by omega) (fun _ _ _ => rfl)
    rw [← hL] at hV4
    obtain ⟨oa, oc, rfl, ho1, ho2⟩ := own_form hown
    have HV4 := Lib.hid hV4; clear hV4 hkv hR hown hLk
    go_wp2_with fail
    go_ret
    exact ⟨_, rfl, HV4.out, hB01.trans (hB.mono (by omega))⟩
  | cons k r =>
    have hok' : _ = Value.bool true := hok
    subst hok'
    have hk1 := hkv rfl
    have hk1' : V1 _ wo _ k := hk1
    obtain ⟨hkn, hkc, hkr⟩ := Hkey.out.1 k (by rw [hL]; simp)
    have hbeh := keys_behind Hf.out.2.2.2 hL
    obtain ⟨ka, kc, rfl, hkm⟩ := hk1'.form
    have hkn2 : k.length ≤ n := by omega
    have Hk := Lib.hid (And.intro hkc (And.intro hkr hbeh)); clear hkc hkr hbeh hkv hkn
    have hL' : keysOf m = (L1 ++ [k]) ++ r := by rw [hL]; simp
    have HL' := Lib.hid (And.intro hL hL'); clear hL hL'
    have Hown := Lib.hid (And.intro hown hR); clear hown hR
    have hsn := selL_snoc locks cuts gb L1 k
    have Hsn := Lib.hid hsn; clear hsn
    have hxo : ∀ o, wo.cell? ⟨W.heap.size, o, none⟩ = (#[.int .i64 m.c, .int .i64 m.d, .int .i64 m.s, .int .i64 m.e, .int .i64 m.l, .slice a t.length c] : Array Value)[o]? := fun o => by rw [(bcell hB).1 _ _ hz01, Hc01.out]
    clear hk1
    go_wp2_with fail
    clear hxo
    go_loopw [11, 12] (fun ob j wn => ∃ q : Nat, q ≤ locks.length ∧ j = .int .i64 (q : Int) ∧ ob = .bool (openTo locks k q) ∧ Below wo.heap.size wo wn) (fun _ j _ => locks.length - (intOf j).toNat)
    case atStart => exact ⟨0, Nat.zero_le _, rfl, rfl, Below.refl _ _⟩
    case round =>
     obtain ⟨q, hq, rfl, rfl, hBn⟩ := hrel
     have hzn := hBn.size
     by_cases hqq : q < locks.length
     ·cases ho : openTo locks k q
      ·obtain ⟨b2, off2, a2, c2, rfl, _, hc2, hr2⟩ := (hLk.1.below hBn).cell hqq
       have hlen : k.length ≤ (getll locks q).length := by rw [Hlk.out q hqq]; exact hkn2
       have hst : openTo locks k (q + 1) = opensB (getll locks q) k := by rw [openTo, ho]; rfl
       have Hst := Lib.hid hst; clear hst
       have Ho := Lib.hid ho; clear ho
       go_wp2_with fail
       refine (l04Opens_any _ _ (getll locks q) k _ hr2 (hk1'.below hBn) hlen).mono ?_
       rintro e' w5 ⟨rfl, hb5⟩
       clear hc2 hr2
       go_wp2_with fail
       go_roundw
       case rel => exact ⟨q + 1, by omega, by go_num, by rw [Hst.out], hBn.trans (hb5.mono hzn)⟩
       case measure => simp [intOf]; omega
      ·have hst : openTo locks k (q + 1) = true := by rw [openTo, ho]; rfl
       have Hst := Lib.hid hst; clear hst
       have Ho := Lib.hid ho; clear ho
       go_wp2_with fail
       go_roundw
       case rel => exact ⟨q + 1, by omega, by go_num, by rw [Hst.out], hBn⟩
       case measure => simp [intOf]; omega
     ·obtain rfl : q = locks.length := by omega
      rw [openTo_all]
      have hBW := hB.trans (hBn.mono hzr)
      have hownW := own_chg Hown.out.1 (Chg.of_below (F := fun _ => False) hBn) (fun _ _ h => h)
      have hRW := RowVs.below Hown.out.2 hBn
      have hLkW := hLk.below hBn
      have hkW := hk1'.below hBn
      have hse : selK locks cuts gb k = ((decide (0 < ndoors locks k) == gb) && !hasL cuts k) := rfl
      have hslen : (selL locks cuts gb L1).length ≤ 262144 := by omega
      obtain ⟨o, ho⟩ : ∃ o, decide (0 < ndoors locks k) = o := ⟨_, rfl⟩
      rw [ho] at hse ⊢
      have Ho := Lib.hid ho; clear ho
      cases hog : (o == gb)
      ·have hsf : ¬ selK locks cuts gb k = true := by rw [hse, hog]; simp
       have Hsf := Lib.hid (And.intro hsf hse); clear hsf hse
       have hownN := hownW
       have hRN := hRW
       have hLkN := hLkW
       have hBN := hBW
       have hkN := hkW
       clear hownW hRW hLkW hBW hkW
       have hxN : ∀ o, wr.cell? ⟨W.heap.size, o, none⟩ = (#[.int .i64 m.c, .int .i64 m.d, .int .i64 m.s, .int .i64 m.e, .int .i64 m.l, .slice a t.length c] : Array Value)[o]? := fun o => by rw [(bcell hBN).1 _ _ hz01, Hc01.out]
       have hzN : W.heap.size < wr.heap.size := by have := hBN.size; omega
       have HN := Lib.hid (And.intro hownN (And.intro hRN (And.intro hLkN hBN))); clear hownN hRN hLkN hBN
       go_wp2_with fail
       refine (l02Next_any m Hf.out.2.2.1 _ k _ hkN Hk.out.1 Hk.out.2.1).mono ?_
       rintro e' wM ⟨kv', he', hkv', hbM⟩
       rw [Hk.out.2.2] at he' hkv'
       subst he'
       have hkv2 : (nextAns r).2 = true → V1 _ wM kv' (nextAns r).1 := fun hh => key_farC (C := fun b => W1.heap.size ≤ b) HN.out.1 (hkv' hh) (fun _ h => h) (fun b hb => by have := HN.out.2.2.2.size; omega)
       have HM := Lib.hid (And.intro hkv2 (And.intro (toCome_next Hf.out.2.2.2 hkv2 HL'.out.2) (toCome_more (m := m) hk1'))); clear hkv' hkv2 hxN
       obtain ⟨qb, hqb⟩ : ∃ qb, (nextAns r).2 = qb := ⟨_, rfl⟩
       rw [hqb]
       have Hqb := Lib.hid hqb; clear hqb
       go_wp2_with fail
       go_roundw
       case rel => exact ⟨L1 ++ [k], r, _, HL'.out.2, by rw [Hqb.out], HM.out.1, by rw [Hsn.out, if_neg Hsf.out.1]; exact own_chg HN.out.1 (Chg.of_below (F := fun _ => False) hbM) (fun _ _ h => h), by rw [Hsn.out, if_neg Hsf.out.1]; exact RowVs.below HN.out.2.1 hbM, HN.out.2.2.1.below hbM, HN.out.2.2.2.trans (hbM.mono HN.out.2.2.2.size)⟩
       case measure => rw [HM.out.2.2, Hk.out.2.2]; have := HM.out.2.1; rw [Hqb.out] at this; omega
      ·cases hh : hasL cuts k
       ·have hst : selK locks cuts gb k = true := by rw [hse, hog, hh]; rfl
        have Hst := Lib.hid (And.intro hst hse); clear hst hse
        have Hh := Lib.hid hh; clear hh
        go_wp2_with fail
        refine (l14Has_b _ _ cuts k _ _ Hh.out (hC1.below hBW) hkW).mono ?_
        rintro e' w6 ⟨rfl, nq, hw6⟩
        have hb6 : Below wr.heap.size wr w6 := by rw [hw6]; exact below_drewN (Below.refl _ _) _
        clear hw6
        have hown6 := own_chg hownW (Chg.of_below (F := fun _ => False) hb6) (fun _ _ h => h)
        have hR6 := RowVs.below hRW hb6
        have hLk6 := hLkW.below hb6
        have hB6 := hBW.trans (hb6.mono (by have := hBW.size; omega))
        have hk6 := hkW.below hb6
        have hz6 := hB6.size
        clear hownW hRW hLkW hBW hkW
        go_wp2_with ((at_builtin; refine wp_app1 _ rfl _ _ 24 rfl W1.heap.size 44 (.slice none 0 0) 24 Tryz.underlying24 inf_ints rfl u7 _ _ rfl hown6 (.slice ka k.length kc) _ rfl rfl (by omega) (by omega) (by omega) ?_; intro v1 w1 hown1 hgrow1 hblk1 hB1); have hBN := hB6.trans hB1; have hx1 : ∀ o, w1.cell? ⟨W.heap.size, o, none⟩ = (#[.int .i64 m.c, .int .i64 m.d, .int .i64 m.s, .int .i64 m.e, .int .i64 m.l, .slice a t.length c] : Array Value)[o]? := (fun o => by rw [(bcell hBN).1 _ _ hz01, Hc01.out]); have hz1 : W.heap.size < w1.heap.size := (by have := hBN.size; omega))
        clear hx1
        have hownN := hown1
        rw [show (selL locks cuts gb L1).length + 1 = (selL locks cuts gb L1 ++ [k]).length from (by simp)] at hownN
        have hkN : V1 (fun b => v1.ownBlock ≠ some b ∧ W1.heap.size ≤ b) w1 _ k := V1.farC hk6 hgrow1 hblk1
        have hRN := RowVs.snoc (RowVs.farC hR6 hgrow1 hblk1) hkN
        have hLkN := hLk6.grown hgrow1 hblk1
        clear hown6 hR6 hLk6 hB6 hk6 hown1 hgrow1 hblk1 hB1
        have hxN : ∀ o, w1.cell? ⟨W.heap.size, o, none⟩ = (#[.int .i64 m.c, .int .i64 m.d, .int .i64 m.s, .int .i64 m.e, .int .i64 m.l, .slice a t.length c] : Array Value)[o]? := fun o => by rw [(bcell hBN).1 _ _ hz01, Hc01.out]
        have hzN : W.heap.size < w1.heap.size := by have := hBN.size; omega
        have HN := Lib.hid (And.intro hownN (And.intro hRN (And.intro hLkN hBN))); clear hownN hRN hLkN hBN
        go_wp2_with fail
        refine (l02Next_any m Hf.out.2.2.1 _ k _ hkN Hk.out.1 Hk.out.2.1).mono ?_
        rintro e' wM ⟨kv', he', hkv', hbM⟩
        rw [Hk.out.2.2] at he' hkv'
        subst he'
        have hkv2 : (nextAns r).2 = true → V1 _ wM kv' (nextAns r).1 := fun hh => key_farC (C := fun b => W1.heap.size ≤ b) HN.out.1 (hkv' hh) (fun _ h => h) (fun b hb => by have := HN.out.2.2.2.size; omega)
        have HM := Lib.hid (And.intro hkv2 (And.intro (toCome_next Hf.out.2.2.2 hkv2 HL'.out.2) (toCome_more (m := m) hk1'))); clear hkv' hkv2 hxN
        obtain ⟨qb, hqb⟩ : ∃ qb, (nextAns r).2 = qb := ⟨_, rfl⟩
        rw [hqb]
        have Hqb := Lib.hid hqb; clear hqb
        go_wp2_with fail
        go_roundw
        case rel => exact ⟨L1 ++ [k], r, _, HL'.out.2, by rw [Hqb.out], HM.out.1, by rw [Hsn.out, if_pos Hst.out.1]; exact own_chg HN.out.1 (Chg.of_below (F := fun _ => False) hbM) (fun _ _ h => h), by rw [Hsn.out, if_pos Hst.out.1]; exact RowVs.below HN.out.2.1 hbM, HN.out.2.2.1.below hbM, HN.out.2.2.2.trans (hbM.mono HN.out.2.2.2.size)⟩
        case measure => rw [HM.out.2.2, Hk.out.2.2]; have := HM.out.2.1; rw [Hqb.out] at this; omega
       ·have hsf : ¬ selK locks cuts gb k = true := by rw [hse, hog, hh]; simp
        have Hsf := Lib.hid (And.intro hsf hse); clear hsf hse
        have Hh := Lib.hid hh; clear hh
        go_wp2_with fail
        refine (l14Has_b _ _ cuts k _ _ Hh.out (hC1.below hBW) hkW).mono ?_
        rintro e' w6 ⟨rfl, nq, hw6⟩
        have hb6 : Below wr.heap.size wr w6 := by rw [hw6]; exact below_drewN (Below.refl _ _) _
        clear hw6
        have hownN := own_chg hownW (Chg.of_below (F := fun _ => False) hb6) (fun _ _ h => h)
        have hRN := RowVs.below hRW hb6
        have hLkN := hLkW.below hb6
        have hBN := hBW.trans (hb6.mono (by have := hBW.size; omega))
        have hkN := hkW.below hb6
        clear hownW hRW hLkW hBW hkW
        have hxN : ∀ o, w6.cell? ⟨W.heap.size, o, none⟩ = (#[.int .i64 m.c, .int .i64 m.d, .int .i64 m.s, .int .i64 m.e, .int .i64 m.l, .slice a t.length c] : Array Value)[o]? := fun o => by rw [(bcell hBN).1 _ _ hz01, Hc01.out]
        have hzN : W.heap.size < w6.heap.size := by have := hBN.size; omega
        have HN := Lib.hid (And.intro hownN (And.intro hRN (And.intro hLkN hBN))); clear hownN hRN hLkN hBN
        go_wp2_with fail
        refine (l02Next_any m Hf.out.2.2.1 _ k _ hkN Hk.out.1 Hk.out.2.1).mono ?_
        rintro e' wM ⟨kv', he', hkv', hbM⟩
        rw [Hk.out.2.2] at he' hkv'
        subst he'
        have hkv2 : (nextAns r).2 = true → V1 _ wM kv' (nextAns r).1 := fun hh => key_farC (C := fun b => W1.heap.size ≤ b) HN.out.1 (hkv' hh) (fun _ h => h) (fun b hb => by have := HN.out.2.2.2.size; omega)
        have HM := Lib.hid (And.intro hkv2 (And.intro (toCome_next Hf.out.2.2.2 hkv2 HL'.out.2) (toCome_more (m := m) hk1'))); clear hkv' hkv2 hxN
        obtain ⟨qb, hqb⟩ : ∃ qb, (nextAns r).2 = qb := ⟨_, rfl⟩
        rw [hqb]
        have Hqb := Lib.hid hqb; clear hqb
        go_wp2_with fail
        go_roundw
        case rel => exact ⟨L1 ++ [k], r, _, HL'.out.2, by rw [Hqb.out], HM.out.1, by rw [Hsn.out, if_neg Hsf.out.1]; exact own_chg HN.out.1 (Chg.of_below (F := fun _ => False) hbM) (fun _ _ h => h), by rw [Hsn.out, if_neg Hsf.out.1]; exact RowVs.below HN.out.2.1 hbM, HN.out.2.2.1.below hbM, HN.out.2.2.2.trans (hbM.mono HN.out.2.2.2.size)⟩
        case measure => rw [HM.out.2.2, Hk.out.2.2]; have := HM.out.2.1; rw [Hqb.out] at this; omega
theorem l21Outsiders_any {S S' : Nat → Prop} (m : Mk) (u v : Value) (t cuts : List (List Int)) (n : Nat) (gb : Bool) (W : World) (hf : Fits m t cuts) (hn : (n : Int) = m.c) (h : V2 S W u t) (hc : V2 S' W v cuts) :
  Calls Tryz.prog 54 #[.agg #[.int .i64 m.c, .int .i64 m.d, .int .i64 m.s, .int .i64 m.e, .int .i64 m.l, u], v, .bool gb] W fun e' w' => ∃ v', e' = .returned v' ∧ V2 (fun b => b < w'.heap.size) w' v' (selL (locksTo n t cuts (getl t 0).length) cuts gb (keysOf m)) ∧ Below W.heap.size W w' := by
 refine (l21Outsiders_fr m u v t cuts n gb W hf hn h hc).mono ?_
 rintro e' w' ⟨v', rfl, h1, h2⟩
 exact ⟨v', rfl, h1.old, h2⟩
/-- As Out2, the rows' values and their blocks named. -/
def Out2x (B : Nat) (w : World) (v : Value) (ls : List (List Int)) (vs : List Value) (bk : Nat → Nat) : Prop :=
 w.ownsRow B 44 1 v ls.length vs ∧ (∀ k, k < ls.length → ∃ rv, vs[k]? = some rv ∧ X1 w rv (getl ls k) (bk k)) ∧
  (∀ k, k < ls.length → getl ls k ≠ [] → B ≤ bk k ∧ v.ownBlock ≠ some (bk k) ∧ ∀ j, j < ls.length → j ≠ k → getl ls j ≠ [] → bk j ≠ bk k)
theorem Out2x.out {B : Nat} {w : World} {v : Value} {ls : List (List Int)} {vs : List Value} {bk : Nat → Nat} (h : Out2x B w v ls vs bk) : Out2 B w v ls := ⟨vs, bk, h.1, h.2.1, h.2.2⟩
theorem Out2x.push {B : Nat} {w w2 w1 : World} {v v1 rv : Value} {ls : List (List Int)} {l : List Int} {b : Nat} {vs : List Value} {bk : Nat → Nat}
  (h : Out2x B w v ls vs bk)
  (hB : B ≤ w.heap.size) (hb : Below w.heap.size w w2) (hx : X1 w2 rv l b) (hbn : l ≠ [] → w.heap.size ≤ b)
  (hown : w1.ownsRow B 44 1 v1 (ls.length + 1) (vs ++ [rv])) (hg : w2.grownBy w1 v.ownBlock) (hblk : v1.ownBlock = v.ownBlock ∨ ∃ g, v1.ownBlock = some g ∧ w2.heap.size ≤ g) : Out2x B w1 v1 (ls ++ [l]) (vs ++ [rv]) (fun k => if k < ls.length then bk k else b) := by
 obtain ⟨h1, h2, h3⟩ := h
 have hvl : ∀ g, v.ownBlock = some g → g < w.heap.size := fun g hgg => (h1.lt g hgg).2
 have hxl : ∀ k, k < ls.length → getl ls k ≠ [] → bk k < w.heap.size := fun k hk hn => by
  obtain ⟨rv, _, h⟩ := h2 k hk; exact h.lt hn
 have hne1 : ∀ c, c < w2.heap.size → v.ownBlock ≠ some c → v1.ownBlock ≠ some c := fun c hc hn e => by
  rcases hblk with e1 | ⟨g, e1, hge⟩
  ·exact hn (e1.symm.trans e)
  ·rw [e] at e1; cases e1; omega
 have hvl1 := h1.1
 refine ⟨by simpa using hown, fun k hk => ?_, fun k hk hn => ?_⟩
 ·by_cases hkl : k < ls.length
  ·obtain ⟨rv', h4, h5⟩ := h2 k hkl
   refine ⟨rv', by rw [List.getElem?_append_left (by omega)]; exact h4, ?_⟩
   rw [getl_app1 hkl]
   simp only [hkl, if_true]
   exact h5.keep fun hn => by
    rw [hg.block _ (Nat.lt_of_lt_of_le (hxl k hkl hn) hb.size) (fun e => (h3 k hkl hn).2.1 e.symm), hb.block _ (hxl k hkl hn)]
  ·have e : k = ls.length := by simp at hk; omega
   subst e
   refine ⟨rv, by rw [List.getElem?_append_right (by omega)]; simp [show ls.length - vs.length = 0 by omega], ?_⟩
   rw [getl_app2]
   simp only [Nat.lt_irrefl, if_false]
   exact hx.keep fun hn => hg.block _ (hx.lt hn) (fun e => by have := hvl b e.symm; have := hbn hn; omega)
 ·by_cases hkl : k < ls.length
  ·rw [getl_app1 hkl] at hn
   simp only [hkl, if_true]
   obtain ⟨h4, h5, h6⟩ := h3 k hkl hn
   refine ⟨h4, hne1 _ (Nat.lt_of_lt_of_le (hxl k hkl hn) hb.size) h5, fun j hj hjk hnj => ?_⟩
   by_cases hjl : j < ls.length
   ·rw [getl_app1 hjl] at hnj
    simp only [hjl, if_true]
    exact h6 j hjl hjk hnj
   ·have e : j = ls.length := by simp at hj; omega
    subst e
    rw [getl_app2] at hnj
    simp only [Nat.lt_irrefl, if_false]
    have := hbn hnj; have := hxl k hkl hn; omega
  ·have e : k = ls.length := by simp at hk; omega
   subst e
   rw [getl_app2] at hn
   simp only [Nat.lt_irrefl, if_false]
   refine ⟨by have := hbn hn; omega, hne1 _ (hx.lt hn) (fun e => by have := hvl b e; have := hbn hn; omega), fun j hj hjk hnj => ?_⟩
   have hjl : j < ls.length := by simp at hj; omega
   rw [getl_app1 hjl] at hnj
   simp only [hjl, if_true]
   have := hbn hn; have := hxl j hjl hnj; omega
/-- The blocks that a list of lists stands in, and the one of the cell that holds it. -/
def OutF (OB : Nat) (v : Value) (ls : List (List Int)) (bk : Nat → Nat) (b : Nat) : Prop := b = OB ∨ v.ownBlock = some b ∨ ∃ k, k < ls.length ∧ getl ls k ≠ [] ∧ b = bk k
theorem Out2x.stay {B OB : Nat} {w w' : World} {v : Value} {ls : List (List Int)} {vs : List Value} {bk : Nat → Nat} (h : Out2x B w v ls vs bk) (hk : ∀ b, OutF OB v ls bk b → w'.heap[b]? = w.heap[b]?) : Out2x B w' v ls vs bk := by
 obtain ⟨h1, h2, h3⟩ := h
 refine ⟨⟨h1.1, ?_⟩, fun k hkl => ?_, h3⟩
 ·rcases h1.2 with h0 | ⟨g, cap, cur, rfl, h4, h5, h6⟩
  ·exact .inl h0
  ·exact .inr ⟨g, cap, cur, rfl, h4, by rw [hk g (.inr (.inl rfl))]; exact h5, h6⟩
 ·obtain ⟨rv, h4, h5⟩ := h2 k hkl
  exact ⟨rv, h4, h5.keep fun hn => hk _ (.inr (.inr ⟨k, hkl, hn, rfl⟩))⟩
theorem Out2x.lt {B OB : Nat} {w : World} {v : Value} {ls : List (List Int)} {vs : List Value} {bk : Nat → Nat} (h : Out2x B w v ls vs bk) (ho : OB < w.heap.size) : ∀ b, OutF OB v ls bk b → b < w.heap.size := by
 rintro b (rfl | h1 | ⟨k, h1, h2, rfl⟩)
 ·exact ho
 ·exact (h.1.lt _ h1).2
 ·obtain ⟨rv, _, h5⟩ := h.2.1 k h1
  exact h5.lt h2
/-- The blocks that a list of lists stands in. -/
def OutG (v : Value) (ls : List (List Int)) (bk : Nat → Nat) (b : Nat) : Prop := v.ownBlock = some b ∨ ∃ k, k < ls.length ∧ getl ls k ≠ [] ∧ b = bk k
theorem Out2x.lo {B : Nat} {w w' : World} {v : Value} {ls : List (List Int)} {vs : List Value} {bk : Nat → Nat} (h : Out2x B w v ls vs bk) (hk : ∀ b, OutG v ls bk b → w'.heap[b]? = w.heap[b]?) : Out2x B w' v ls vs bk := by
 obtain ⟨h1, h2, h3⟩ := h
 refine ⟨⟨h1.1, ?_⟩, fun k hkl => ?_, h3⟩
 ·rcases h1.2 with h0 | ⟨g, cap, cur, rfl, h4, h5, h6⟩
  ·exact .inl h0
  ·exact .inr ⟨g, cap, cur, rfl, h4, by rw [hk g (.inl rfl)]; exact h5, h6⟩
 ·obtain ⟨rv, h4, h5⟩ := h2 k hkl
  exact ⟨rv, h4, h5.keep fun hn => hk _ (.inr ⟨k, hkl, hn, rfl⟩)⟩
theorem OutG.push {b3 z : Nat} {v v' : Value} {ls : List (List Int)} {l : List Int} {bk : Nat → Nat} (hblk : v'.ownBlock = v.ownBlock ∨ ∃ g, v'.ownBlock = some g ∧ z ≤ g) (hb3 : l ≠ [] → z ≤ b3) :
  ∀ b, OutG v' (ls ++ [l]) (fun k => if k < ls.length then bk k else b3) b → OutG v ls bk b ∨ z ≤ b := by
 rintro b (h1 | ⟨k, h1, h2, rfl⟩)
 ·rcases hblk with e | ⟨g, e, hz⟩
  ·exact .inl (.inl (e ▸ h1))
  ·rw [e] at h1; cases h1; exact .inr hz
 ·by_cases hk : k < ls.length
  ·rw [getl_app1 hk] at h2
   simp only [hk, if_true]
   exact .inl (.inr ⟨k, hk, h2, rfl⟩)
  ·have e : k = ls.length := by simp at h1; omega
   subst e
   rw [getl_app2] at h2
   simp only [Nat.lt_irrefl, if_false]
   exact .inr (hb3 h2)
theorem F2.nil0 {B : Nat} {w : World} : F2 B w (.slice none 0 0) [] := ⟨0, fun _ => 0, ⟨none, 0, rfl, Nat.le_refl _, Nat.zero_le _, fun hn => absurd rfl hn, fun k hk => by simp at hk⟩, fun hn => absurd rfl hn, fun k hk => by simp at hk⟩
/-- Block G holds the numbers l and nothing else. -/
def BlkI (w : World) (G : Nat) (l : List Int) : Prop := ∃ T, w.heap[G]? = some (.cells (l.map (Value.int .i64)).toArray T (0, 0))
theorem BlkI.cell {w : World} {G k : Nat} {l : List Int} (h : BlkI w G l) (hk : k < l.length) : w.cell? ⟨G, k, none⟩ = some (.int .i64 (geti l k)) := by
 obtain ⟨T, h⟩ := h
 rw [cell_of_block h, geti_eq hk]
 simp [hk]
theorem BlkI.frozen {w : World} {G : Nat} {l : List Int} (h : BlkI w G l) (k : Nat) : w.frozen? ⟨G, k, none⟩ = false := by
 obtain ⟨T, h⟩ := h; exact frozen_of_block h k
theorem BlkI.set {w : World} {G : Nat} {l : List Int} (h : BlkI w G l) (k : Nat) (x : Int) : BlkI (w.setCell ⟨G, k, none⟩ (.int .i64 x)) G (l.set k x) := by
 obtain ⟨T, h⟩ := h
 refine ⟨T, ?_⟩
 rw [heap_setCell_self h]
 congr 2
 apply Array.ext'
 simp [List.map_set]
theorem BlkI.keep {w w' : World} {G : Nat} {l : List Int} (h : BlkI w G l) (hk : w'.heap[G]? = w.heap[G]?) : BlkI w' G l := by
 obtain ⟨T, h⟩ := h; exact ⟨T, by rw [hk]; exact h⟩
theorem BlkI.lt {w : World} {G : Nat} {l : List Int} (h : BlkI w G l) : G < w.heap.size := by
 obtain ⟨T, h⟩ := h; exact lt_of_heap h
/-- The last place of a count above 0 among the first k, counted from 1; 0 if there is none. -/
def worst (l : List Int) : Nat → Int
 | 0 => 0
 | k + 1 => if 0 < geti l k then (k : Int) + 1 else worst l k
theorem F1.nil0 {B : Nat} {w : World} : F1 B w (.slice none 0 0) [] := ⟨0, ⟨none, 0, rfl, Nat.le_refl _, Nat.zero_le _, fun hn => absurd rfl hn⟩, fun hn => absurd rfl hn⟩
theorem F1.nil {B : Nat} {w : World} : F1 B w (.slice none 0 0) [] := ⟨0, ⟨none, 0, rfl, Nat.le_refl _, Nat.zero_le _, fun hn => absurd rfl hn⟩, fun hn => absurd rfl hn⟩
/-- Of some keys those that open n doors. -/
def lvlL (locks : List (List (List Int))) (L : List (List Int)) (n : Nat) : List (List Int) := L.filter fun k => decide (ndoors locks k = n)
/-- Those of the j highest of D levels, the highest level first. -/
def frontL (locks : List (List (List Int))) (L : List (List Int)) (D : Nat) : Nat → List (List Int)
 | 0 => []
 | j + 1 => frontL locks L D j ++ lvlL locks L (D - j)
def wghAns (m : Mk) (t cuts : List (List Int)) (most : Int) : List (List Int) × Int :=
 if designC m t cuts ≠ 0 then ([], designC m t cuts) else if inB most 0 300 = false then ([], 2)
 else ((frontL (locksTo m.c.toNat t cuts (getl t 0).length) (selL (locksTo m.c.toNat t cuts (getl t 0).length) cuts true (keysOf m)) (getl t 0).length (getl t 0).length).take most.toNat, 0)
section
variable {locks : List (List (List Int))} {L : List (List Int)} {D : Nat}
theorem mem_front {x : List Int} : ∀ {j}, j ≤ D → (x ∈ frontL locks L D j ↔ x ∈ L ∧ D - j < ndoors locks x ∧ ndoors locks x ≤ D)
 | 0, _ => by
   constructor
   ·intro h; cases h
   ·rintro ⟨_, h1, h2⟩; omega
 | j + 1, hj => by
   unfold frontL lvlL
   rw [List.mem_append, mem_front (by omega), List.mem_filter, decide_eq_true_iff]
   constructor
   ·rintro (⟨h1, h2, h3⟩ | ⟨h1, h2⟩)
    ·exact ⟨h1, by omega, h3⟩
    ·exact ⟨h1, by omega, by omega⟩
   ·rintro ⟨h1, h2, h3⟩
    by_cases e : ndoors locks x = D - j
    ·exact .inr ⟨h1, e⟩
    ·exact .inl ⟨h1, by omega, h3⟩
end
/-- The state: for each number of doors the ghosts that open so many, at most as many as told. -/
def setL (s : Nat → List (List Int)) (n : Nat) (l : List (List Int)) : Nat → List (List Int) := fun k => if k = n then l else s k
def wgStep (M : Nat) (s : Nat → List (List Int)) (key ds : List Int) : (Nat → List (List Int)) × Bool :=
 if 0 < ds.length ∧ (s ds.length).length < M then (setL s ds.length (s ds.length ++ [key]), true) else (s, true)
theorem wg_run (M : Nat) (cuts : List (List Int)) (locks : List (List (List Int))) (n : Nat) : ∀ (l : List (List Int)) (s : Nat → List (List Int)), (s n).length ≤ M →
  (runL (outStep (wgStep M) cuts locks) s l).1 n = if n = 0 then s n else s n ++ (lvlL locks (selL locks cuts true l) n).take (M - (s n).length)
 | [], s, h => by simp [runL, selL, lvlL]
 | k :: l, s, h => by
   rw [runL]
   have hb : ∀ x, (outStep (wgStep M) cuts locks s k) = (x, true) → (if (outStep (wgStep M) cuts locks s k).2 = true then runL (outStep (wgStep M) cuts locks) (outStep (wgStep M) cuts locks s k).1 l else ((outStep (wgStep M) cuts locks s k).1, false)).1 n = (runL (outStep (wgStep M) cuts locks) x l).1 n := fun x hx => by rw [hx]; rfl
   have hsel : selL locks cuts true (k :: l) = if selK locks cuts true k = true then k :: selL locks cuts true l else selL locks cuts true l := by
    unfold selL; rw [List.filter_cons]
   by_cases hc : hasL cuts k = true
   ·have e1 : outStep (wgStep M) cuts locks s k = (s, true) := by unfold outStep; rw [if_pos hc]
    have e2 : selK locks cuts true k = false := by unfold selK; simp [hc]
    rw [e1, hsel, e2]
    exact wg_run M cuts locks n l s h
   ·have e1 : outStep (wgStep M) cuts locks s k = wgStep M s k (doorsOf locks k) := by unfold outStep; rw [if_neg hc]
    rw [e1, hsel]
    by_cases hk : 0 < (doorsOf locks k).length
    ·have e2 : selK locks cuts true k = true := by unfold selK; simp only [Bool.not_eq_true] at hc; rw [hc, show decide (0 < ndoors locks k) = true from decide_eq_true hk]; rfl
     have hlv : lvlL locks (k :: selL locks cuts true l) n = if (doorsOf locks k).length = n then k :: lvlL locks (selL locks cuts true l) n else lvlL locks (selL locks cuts true l) n := by
      unfold lvlL; rw [List.filter_cons]; simp only [decide_eq_true_iff]; rfl
     rw [if_pos e2, hlv]
     by_cases hm : (s (doorsOf locks k).length).length < M
     ·have e4 : wgStep M s k (doorsOf locks k) = (setL s (doorsOf locks k).length (s (doorsOf locks k).length ++ [k]), true) := by unfold wgStep; rw [if_pos ⟨hk, hm⟩]
      rw [e4, if_pos rfl]
      by_cases hn : n = (doorsOf locks k).length
      ·have hs : setL s (doorsOf locks k).length (s (doorsOf locks k).length ++ [k]) n = s n ++ [k] := by unfold setL; rw [if_pos hn, hn]
       rw [← hn] at hm hk
       have ih := wg_run M cuts locks n l (setL s (doorsOf locks k).length (s (doorsOf locks k).length ++ [k])) (by rw [hs]; simp; omega)
       rw [hs] at ih
       rw [ih, if_neg (by omega), if_neg (by omega), if_pos hn.symm, List.append_assoc]
       congr 1
       rw [List.length_append, List.length_singleton, show M - (s n).length = (M - ((s n).length + 1)) + 1 by omega]
       rfl
      ·have hs : setL s (doorsOf locks k).length (s (doorsOf locks k).length ++ [k]) n = s n := by unfold setL; rw [if_neg hn]
       have ih := wg_run M cuts locks n l (setL s (doorsOf locks k).length (s (doorsOf locks k).length ++ [k])) (by rw [hs]; exact h)
       rw [hs] at ih
       rw [ih]
       simp only [if_neg (show ¬ (doorsOf locks k).length = n from fun e => hn e.symm)]
     ·have e4 : wgStep M s k (doorsOf locks k) = (s, true) := by unfold wgStep; rw [if_neg (fun hh => hm hh.2)]
      rw [e4, if_pos rfl, wg_run M cuts locks n l s h]
      by_cases hn : (doorsOf locks k).length = n
      ·rw [if_pos hn]
       rw [hn] at hm
       rw [show M - (s n).length = 0 by omega]; simp
      ·rw [if_neg hn]
    ·have e2 : selK locks cuts true k = false := by unfold selK; rw [show decide (0 < ndoors locks k) = false from decide_eq_false hk]; simp
     have e4 : wgStep M s k (doorsOf locks k) = (s, true) := by unfold wgStep; rw [if_neg (fun hh => hk hh.1)]
     rw [e4, e2]
     exact wg_run M cuts locks n l s h
/-- The table of lists: block TB holds D + 1 lists of keys, each in memory of its own. -/
structure WgAt (B TB D : Nat) (s : Nat → List (List Int)) (cs : Array Value) (vals : Nat → Value) (vss : Nat → List Value) (bks : Nat → Nat → Nat) (w : World) : Prop where
 tab : w.heap[TB]? = some (.cells cs 24 (0, 0))
 cell : ∀ k, k ≤ D → cs[k]? = some (vals k)
 each : ∀ k, k ≤ D → Out2x B w (vals k) (s k) (vss k) (bks k)
 sep : ∀ j k, j ≤ D → k ≤ D → j ≠ k → ∀ b, OutG (vals j) (s j) (bks j) b → ¬ OutG (vals k) (s k) (bks k) b
 off : ∀ k, k ≤ D → ¬ OutG (vals k) (s k) (bks k) TB
 base : B ≤ w.heap.size
def FamF (TB D : Nat) (vals : Nat → Value) (s : Nat → List (List Int)) (bks : Nat → Nat → Nat) (b : Nat) : Prop := b = TB ∨ ∃ k, k ≤ D ∧ OutG (vals k) (s k) (bks k) b
theorem Out2x.ltG {B : Nat} {w : World} {v : Value} {ls : List (List Int)} {vs : List Value} {bk : Nat → Nat} (h : Out2x B w v ls vs bk) : ∀ b, OutG v ls bk b → b < w.heap.size := by
 rintro b (h1 | ⟨k, h1, h2, rfl⟩)
 ·exact (h.1.lt _ h1).2
 ·obtain ⟨rv, _, h5⟩ := h.2.1 k h1
  exact h5.lt h2
theorem WgAt.stay {B TB D : Nat} {s : Nat → List (List Int)} {cs : Array Value} {vals : Nat → Value} {vss : Nat → List Value} {bks : Nat → Nat → Nat} {w w' : World} (h : WgAt B TB D s cs vals vss bks w)
  (hz : w.heap.size ≤ w'.heap.size) (hk : ∀ b, FamF TB D vals s bks b → w'.heap[b]? = w.heap[b]?) : WgAt B TB D s cs vals vss bks w' :=
 ⟨(hk TB (.inl rfl)).trans h.tab, h.cell, fun k hkD => (h.each k hkD).lo fun b hb => hk b (.inr ⟨k, hkD, hb⟩), h.sep, h.off, Nat.le_trans h.base hz⟩
theorem WgAt.lt {B TB D : Nat} {s : Nat → List (List Int)} {cs : Array Value} {vals : Nat → Value} {vss : Nat → List Value} {bks : Nat → Nat → Nat} {w : World} (h : WgAt B TB D s cs vals vss bks w) : ∀ b, FamF TB D vals s bks b → b < w.heap.size := by
 rintro b (rfl | ⟨k, hk, hb⟩)
 ·exact lt_of_heap h.tab
 ·exact (h.each k hk).ltG b hb
theorem WgAt.put {B TB D : Nat} {s : Nat → List (List Int)} {cs : Array Value} {vals : Nat → Value} {vss : Nat → List Value} {bks : Nat → Nat → Nat} {w : World} (h : WgAt B TB D s cs vals vss bks w)
  {n b3 : Nat} {w2 w4 : World} {rv v' : Value} {key : List Int} (hn : n ≤ D) (hb : Below w.heap.size w w2) (hx : X1 w2 rv key b3) (hbn : key ≠ [] → w.heap.size ≤ b3)
  (hown : w4.ownsRow B 44 1 v' ((s n).length + 1) (vss n ++ [rv])) (hg : w2.grownBy w4 (vals n).ownBlock) (hblk : v'.ownBlock = (vals n).ownBlock ∨ ∃ g, v'.ownBlock = some g ∧ w2.heap.size ≤ g) :
  WgAt B TB D (setL s n (s n ++ [key])) (cs.setIfInBounds n v') (fun k => if k = n then v' else vals k) (fun k => if k = n then vss n ++ [rv] else vss k) (fun k => if k = n then (fun j => if j < (s n).length then bks n j else b3) else bks k) (w4.setCell ⟨TB, n, none⟩ v') ∧
   Chg (FamF TB D vals s bks) w (w4.setCell ⟨TB, n, none⟩ v') ∧ ∀ b, FamF TB D (fun k => if k = n then v' else vals k) (setL s n (s n ++ [key])) (fun k => if k = n then (fun j => if j < (s n).length then bks n j else b3) else bks k) b → FamF TB D vals s bks b ∨ w.heap.size ≤ b := by
 have hO := Out2x.push (h.each n hn) h.base hb hx hbn hown hg hblk
 have hG := OutG.push (b3 := b3) (z := w.heap.size) (v := vals n) (v' := v') (ls := s n) (l := key) (bk := bks n) (by
  rcases hblk with e | ⟨g, e, h1⟩
  ·exact .inl e
  ·exact .inr ⟨g, e, by have := hb.size; omega⟩) hbn
 have hTlt := lt_of_heap h.tab
 have hz := hb.size
 have hT4 : w4.heap[TB]? = some (.cells cs 24 (0, 0)) := by
  rw [hg.block TB (by omega) (fun e => h.off n hn (.inl e.symm)), hb.block TB hTlt]; exact h.tab
 have hOff : ¬ OutG v' (s n ++ [key]) (fun j => if j < (s n).length then bks n j else b3) TB := fun hb => by
  rcases hG TB hb with h1 | h1
  ·exact h.off n hn h1
  ·omega
 have hs1 : setL s n (s n ++ [key]) n = s n ++ [key] := by unfold setL; rw [if_pos rfl]
 have hs2 : ∀ k, k ≠ n → setL s n (s n ++ [key]) k = s k := fun k hk => by unfold setL; rw [if_neg hk]
 have hch : Chg (FamF TB D vals s bks) w (w4.setCell ⟨TB, n, none⟩ v') :=
  ((Chg.of_below hb).grown hg (fun k hk => .inl (.inr ⟨n, hn, .inl hk⟩))).setCell (p := ⟨TB, n, none⟩) (.inl (.inl rfl)) v'
 have hsz : w.heap.size ≤ (w4.setCell ⟨TB, n, none⟩ v').heap.size := hch.size
 have hcsz : n < cs.size := (Array.getElem?_eq_some_iff.1 (h.cell n hn)).1
 refine ⟨⟨heap_setCell_self hT4 v', fun k hk => ?_, fun k hk => ?_, fun j k hj hk hjk b hbj hbk => ?_, fun k hk => ?_, Nat.le_trans h.base hsz⟩, hch, fun b hfb => ?_⟩
 ·by_cases e : k = n
  ·subst e
   simp [hcsz]
  ·simp only [if_neg e]
   rw [Array.getElem?_setIfInBounds, if_neg (fun e2 => e e2.symm)]
   exact h.cell k hk
 ·by_cases e : k = n
  ·subst e
   simp only [if_true, hs1]
   exact hO.lo fun b hb => heap_setCell_other _ (fun e => hOff (by have e2 : b = TB := e; rw [← e2]; exact hb))
  ·simp only [if_neg e, hs2 k e]
   refine (h.each k hk).lo fun b hb2 => ?_
   have hbl := (h.each k hk).ltG b hb2
   rw [heap_setCell_other _ (fun e2 => h.off k hk (by have e3 : b = TB := e2; rw [← e3]; exact hb2)), hg.block b (by omega) (fun e2 => h.sep k n hk hn e b hb2 (.inl e2.symm)), hb.block b hbl]
 ·by_cases ej : j = n
  ·subst ej
   have ek : k ≠ j := fun e => hjk e.symm
   simp only [if_true, hs1] at hbj
   simp only [if_neg ek, hs2 k ek] at hbk
   rcases hG b hbj with h1 | h1
   ·exact h.sep j k hj hk hjk b h1 hbk
   ·have := (h.each k hk).ltG b hbk; omega
  ·simp only [if_neg ej, hs2 j ej] at hbj
   by_cases ek : k = n
   ·subst ek
    simp only [if_true, hs1] at hbk
    rcases hG b hbk with h1 | h1
    ·exact h.sep j k hj hk hjk b hbj h1
    ·have := (h.each j hj).ltG b hbj; omega
   ·simp only [if_neg ek, hs2 k ek] at hbk
    exact h.sep j k hj hk hjk b hbj hbk
 ·by_cases e : k = n
  ·subst e
   simp only [if_true, hs1]
   exact hOff
  ·simp only [if_neg e, hs2 k e]
   exact h.off k hk
 ·rcases hfb with e | ⟨k, hk, hkb⟩
  ·exact .inl (.inl e)
  ·by_cases e : k = n
   ·subst e
    simp only [if_true, hs1] at hkb
    rcases hG b hkb with h1 | h1
    ·exact .inl (.inr ⟨k, hk, h1⟩)
    ·exact .inr h1
   ·simp only [if_neg e, hs2 k e] at hkb
    exact .inl (.inr ⟨k, hk, hkb⟩)
theorem enters_wg : Enters 61 := fun args w => by kernel_rfl
set_option maxRecDepth 100000 in
set_option maxHeartbeats 2000000 in
theorem wg1_any {S S2 : Nat → Prop} (kv dv : Value) (key ds : List Int) (s : Nat → List (List Int)) (B OB MB TB D M : Nat) (cs : Array Value) (vals : Nat → Value) (vss : Nat → List Value) (bks : Nat → Nat → Nat) (w : World) (hk : V1 S w kv key) (hd : V1 S2 w dv ds)
  (hOB : w.cell? ⟨OB, 0, none⟩ = some (.slice (some ⟨TB, 0, none⟩) (D + 1) (D + 1))) (hM : w.cell? ⟨MB, 0, none⟩ = some (.int .i64 (M : Int))) (hI : WgAt B TB D s cs vals vss bks w)
  (hne : ¬ FamF TB D vals s bks OB ∧ ¬ FamF TB D vals s bks MB) (hdl : ds.length ≤ D) (hD : D ≤ 12) (hM3 : M ≤ 300) (hkl : key.length ≤ 1000) (hsl : ∀ k, k ≤ D → (s k).length ≤ 300) :
  Calls Tryz.prog 61 #[kv, dv, .pointer (some ⟨OB, 0, none⟩), .pointer (some ⟨MB, 0, none⟩)] w fun e w' => e = .returned (.bool true) ∧
   ∃ cs' vals' vss' bks', WgAt B TB D (wgStep M s key ds).1 cs' vals' vss' bks' w' ∧ Chg (FamF TB D vals s bks) w w' ∧ ∀ b, FamF TB D vals' (wgStep M s key ds).1 bks' b → FamF TB D vals s bks b ∨ w.heap.size ≤ b := by
 obtain ⟨ka, kc, rfl, hkm⟩ := hk.form
 obtain ⟨da, dc, rfl, hdm⟩ := hd.form
 obtain ⟨n, hn⟩ : ∃ n, ds.length = n := ⟨_, rfl⟩
 rw [hn] at hdl hdm ⊢
 by_cases hn0 : 0 < n
 ·obtain ⟨oa, oc, hov, ho1, ho2⟩ := own_form (hI.each n hdl).1
  have hcn : w.cell? ⟨TB, n, none⟩ = some (.slice oa (s n).length oc) := by rw [cell_of_block hI.tab, hI.cell n hdl, hov]
  have hnn : ¬ D + 1 ≤ n := by omega
  have hnd : (n : Int) < ((D : Int) + 1) := by omega
  have hn1 : decide ((0 : Int) < (n : Int)) = true := decide_eq_true (by omega)
  have hsn := hsl n hdl
  obtain ⟨q, hq⟩ : ∃ q, (s n).length = q := ⟨_, rfl⟩
  rw [hq] at hcn ho1 hsn
  by_cases hm : q < M
  ·have hst : wgStep M s key ds = (setL s n (s n ++ [key]), true) := by unfold wgStep; rw [hn, if_pos ⟨hn0, by omega⟩]
   rw [hst]
   have hmd : decide ((q : Int) < (M : Int)) = true := decide_eq_true (by omega)
   go_enter Tryz.func61, Tryz.ntmps61
   go_wp2_with fail
   go_quiet (fail)
   go_wp2_with fail
   obtain ⟨wn, hwn⟩ : ∃ y, y = w.drewN nq := ⟨_, rfl⟩
   rw [← hwn]
   have hbn : Below w.heap.size w wn := by rw [hwn]; exact below_drewN (Below.refl _ _) _
   have hIn : WgAt B TB D s cs vals vss bks wn := hI.stay hbn.size (fun b hb => hbn.block b (hI.lt b hb))
   have hOn := cell_keep hOB (hbn.block _ (lt_of_cell hOB))
   have hcnn := cell_keep hcn (hbn.block _ (lt_of_cell hcn))
   have hkn := hk.below hbn
   have hown := (hIn.each n hdl).1
   rw [hov, hq] at hown
   have hoff : (Value.slice oa q oc).ownBlock ≠ some TB := fun e => hIn.off n hdl (.inl (by rw [hov, hq]; exact e))
   have hoffO : (Value.slice oa q oc).ownBlock ≠ some OB := fun e => hne.1 (.inr ⟨n, hdl, .inl (by rw [hov, hq]; exact e)⟩)
   have hdr : Below wn.heap.size wn wn.drew := (Below.refl _ _).drew
   have hTlt := lt_of_cell hcnn
   have hOlt := lt_of_cell hOn
   simp only at hTlt hOlt
   have hcs := hIn.cell n hdl
   rw [hov, hq] at hcs
   obtain ⟨i0, hi, hz0, hz1, hz2⟩ := info_parts inf_ints
   have hlk : key.length ≤ 1048576 := by omega
   have HI := Lib.hid (And.intro hIn (And.intro hbn (And.intro hcs (And.intro hov (And.intro hq (And.intro hwn hst)))))); clear hIn hbn hcs hov hq hwn hst hI hcn hOB hM
   have hT := HI.out.1.tab
   have HT := Lib.hid hT; clear hT
   go_region_law (first | (go_simp; go_at_call 62; refine (slClone_any _ key _ (hkn.below hdr) hlk).mono ?_; rintro e' w3 ⟨v3, rfl, ⟨b3, hx3, hb3n⟩, hbc⟩; obtain ⟨a3, c3, rfl, hcc3, _⟩ := id hx3; have hb3 : Below wn.heap.size wn w3 := hdr.trans (hbc.mono (Nat.le_refl _)); have hown3 := own_keep hown hb3; have hT3 := (hb3.block TB hTlt).trans HT.out; have hz3 := lt_of_heap hT3; have hc3 := cell_keep hcnn (hb3.block TB hTlt); have hO3 := cell_keep hOn (hb3.block OB hOlt); have hz3O : OB < w3.heap.size := Nat.lt_of_lt_of_le hOlt hb3.size; have hc3a : ∀ o, (w3.alloc o).cell? ⟨TB, n, none⟩ = some (.slice oa q oc) := (fun o => cell_keep hc3 (Below.heap_alloc _ _ _ hz3)); have hO3a : ∀ o, (w3.alloc o).cell? ⟨OB, 0, none⟩ = some (.slice (some ⟨TB, 0, none⟩) (D + 1) (D + 1)) := (fun o => cell_keep hO3 (Below.heap_alloc _ _ _ hz3O)); (try dsimp only)) | (refine step_append_lies _ (by rfl) _ _ _ (by rfl) B 44 i0 _ 1 24 Tryz.underlying24 hi hz0 hz1 hz2 rfl (by omega) _ q _ (by rfl) (hown3.alloc _) ⟨_, 0, none⟩ 1 1 [.slice a3 key.length c3] (by rfl) (by rfl) (World.news_of_block (heap_alloc_new _ _)) (by simp [Value.oneCell']) (by omega) (by unfold maxLen; omega) (by omega) (by have := hb3.size; have := HI.out.1.base; simp; omega) _ rfl ?_; intro gg cap w4 hown4 hgrow4 hat4 hlt4; have hT4 : w4.heap[TB]? = some (.cells cs 24 (0, 0)) := (hgrow4.block TB (by simp; omega) (fun e => hoff e.symm)).trans ((Below.heap_alloc _ _ _ hz3).trans hT3); have hcl4 : w4.cell? ⟨TB, n, none⟩ = some (.slice oa q oc) := (by rw [cell_of_block hT4]; exact HI.out.2.2.1); have hfl4 := frozen_of_block hT4 n; have hO4 := cell_keep (hO3a (.cells #[.slice a3 key.length c3] 44)) (hgrow4.block OB (by simp; omega) (fun e => hoffO e.symm))))
   all_goals
    have hb3a : Below wn.heap.size wn (w3.alloc (.cells #[.slice a3 key.length c3] 44)) := hb3.alloc hb3.size _
    have hp := WgAt.put (n := n) (b3 := b3) (v' := .slice (some ⟨gg, 0, none⟩) (q + 1) cap) HI.out.1 hdl hb3a (hx3.alloc _) hb3n (by rw [HI.out.2.2.2.2.1]; exact hown4) (by rw [HI.out.2.2.2.1, HI.out.2.2.2.2.1]; exact hgrow4) (by rw [HI.out.2.2.2.1, HI.out.2.2.2.2.1]; exact blk_or rfl hat4)
    have HP := Lib.hid hp; clear hp
    clear hT3 hc3 hO3 hc3a hO3a hown3 hown4
    go_wp2_with fail
    go_ret
    exact ⟨rfl, _, _, _, _, HP.out.1, (Chg.of_below HI.out.2.1).trans HP.out.2.1 (fun i hi => .inl hi), fun b hb => (HP.out.2.2 b hb).imp id fun h => Nat.le_trans HI.out.2.1.size h⟩
  ·have hst : (wgStep M s key ds).1 = s := by unfold wgStep; rw [hn, if_neg (fun hh => hm (by have := hh.2; omega))]
   have hmd : decide ((q : Int) < (M : Int)) = false := decide_eq_false (by omega)
   have Hst := Lib.hid hst; clear hst
   have HI := Lib.hid hI; clear hI
   go_enter Tryz.func61, Tryz.ntmps61
   go_wp2_with fail
   go_quiet (fail)
   go_wp2_with fail
   go_ret
   exact ⟨rfl, cs, vals, vss, bks, by rw [Hst.out]; exact HI.out.stay (below_drewN (Below.refl w.heap.size w) _).size (fun b hb => (below_drewN (Below.refl w.heap.size w) _).block b (HI.out.lt b hb)), Chg.of_below (below_drewN (Below.refl _ _) _), fun b hb => .inl (by rw [Hst.out] at hb; exact hb)⟩
 ·have hst : (wgStep M s key ds).1 = s := by unfold wgStep; rw [hn, if_neg (fun hh => hn0 hh.1)]
  have hn1 : decide ((0 : Int) < (n : Int)) = false := decide_eq_false (by omega)
  have Hst := Lib.hid hst; clear hst
  have HI := Lib.hid hI; clear hI
  go_enter Tryz.func61, Tryz.ntmps61
  go_wp2_with fail
  go_quiet (fail)
  go_wp2_with fail
  go_ret
  exact ⟨rfl, cs, vals, vss, bks, by rw [Hst.out]; exact HI.out.stay (below_drewN (Below.refl w.heap.size w) _).size (fun b hb => (below_drewN (Below.refl w.heap.size w) _).block b (HI.out.lt b hb)), Chg.of_below (below_drewN (Below.refl _ _) _), fun b hb => .inl (by rw [Hst.out] at hb; exact hb)⟩
def WgInv (B TB D : Nat) (s : Nat → List (List Int)) (F : Nat → Prop) (w : World) : Prop :=
 ∃ cs vals vss bks, (∀ b, F b ↔ FamF TB D vals s bks b) ∧ WgAt B TB D s cs vals vss bks w
theorem wg_ok (m : Mk) (hm : m.ok = true) (cuts : List (List Int)) (locks : List (List (List Int))) (B OB MB TB D M : Nat) (W : World) (F0 : Nat → Prop) (hO : W.cell? ⟨OB, 0, none⟩ = some (.slice (some ⟨TB, 0, none⟩) (D + 1) (D + 1))) (hM : W.cell? ⟨MB, 0, none⟩ = some (.int .i64 (M : Int)))
  (hne : ¬ F0 OB ∧ ¬ F0 MB) (hD : D ≤ 12) (hM3 : M ≤ 300) (hll : locks.length ≤ D) :
  VisD m.c.toNat W F0 61 #[.pointer (some ⟨OB, 0, none⟩), .pointer (some ⟨MB, 0, none⟩)] (wgStep M) (fun _ => []) (keysOf m) cuts locks (WgInv B TB D) := by
 refine ⟨enters_wg, ?_, ?_, ?_⟩
 ·rintro s F w w' ⟨cs, vals, vss, bks, h1, h2⟩ hz hk
  exact ⟨cs, vals, vss, bks, h1, h2.stay hz fun b hb => hk b ((h1 b).2 hb)⟩
 ·rintro s F w ⟨cs, vals, vss, bks, h1, h2⟩ b hb
  exact h2.lt b ((h1 b).1 hb)
 ·rintro s F S S2 w v dv key done rest hL hr ⟨cs, vals, vss, bks, h1, h2⟩ hchg hsub hV hS hD' hS2 hkl
  have hsl : ∀ k, k ≤ D → (s k).length ≤ 300 := fun k _ => by
   have hrun := wg_run M cuts locks k done (fun _ => []) (Nat.zero_le _)
   rw [hr] at hrun
   rw [show s k = _ from hrun]
   split
   ·simp
   ·simp only [List.nil_append, List.length_take]; omega
  have hnO : ¬ F OB := fun h => by rcases hsub _ h with h | h; exact hne.1 h; have h9 : OB < W.heap.size := lt_of_cell hO; omega
  have hnM : ¬ F MB := fun h => by rcases hsub _ h with h | h; exact hne.2 h; have h9 : MB < W.heap.size := lt_of_cell hM; omega
  have hmk := Mk.ok_iff.1 hm
  have hdl : (doorsOf locks key).length ≤ D := Nat.le_trans (ndoors_le locks key) hll
  refine (wg1_any v dv key (doorsOf locks key) s B OB MB TB D M cs vals vss bks w hV hD' (cell_keep hO (hchg.block _ (lt_of_cell hO) hne.1)) (cell_keep hM (hchg.block _ (lt_of_cell hM) hne.2)) h2 ⟨fun e => hnO ((h1 _).2 e), fun e => hnM ((h1 _).2 e)⟩ hdl hD hM3 (by omega) hsl).mono ?_
  rintro e w' ⟨rfl, cs', vals', vss', bks', h6, h7, h8⟩
  have hst : (wgStep M s key (doorsOf locks key)).2 = true := by unfold wgStep; split <;> rfl
  refine ⟨FamF TB D vals' (wgStep M s key (doorsOf locks key)).1 bks', by rw [hst], ⟨cs', vals', vss', bks', fun b => Iff.rfl, h6⟩, h7.mono (fun b hb => (h1 b).2 hb), fun b hb => ?_⟩
  rcases h8 b hb with h | h
  ·exact .inl ((h1 b).2 h)
  ·exact .inr h
theorem outG_nil {bk : Nat → Nat} {b : Nat} : ¬ OutG (.slice none 0 0) [] bk b := by
 rintro (h | ⟨k, h, _⟩)
 ·cases h
 ·simp at h
theorem WgAt.start {B TB D : Nat} {w : World} {cs : Array Value} (h : w.heap[TB]? = some (.cells cs 24 (0, 0))) (hc : cs.toList = (madeCells (Value.slice none 0 0).cells ((D + 1) * 1)).toList) (hB : B ≤ w.heap.size) :
  WgAt B TB D (fun _ => []) cs (fun _ => .slice none 0 0) (fun _ => []) (fun _ _ => 0) w := by
 rw [Nat.mul_one, show (Value.slice none 0 0).cells = #[Value.slice none 0 0] from rfl, toList_madeCells_one] at hc
 refine ⟨h, fun k hk => ?_, fun k _ => ⟨⟨rfl, .inl ⟨rfl, rfl⟩⟩, fun k hk => by simp at hk, fun k hk => by simp at hk⟩, fun j k _ _ _ b hb => absurd hb outG_nil, fun k _ => outG_nil, hB⟩
 rw [← Array.getElem?_toList, hc, List.getElem?_replicate, if_pos (by omega)]
theorem getl_app3 {ls L2 : List (List Int)} {k : Nat} (h : ls.length ≤ k) : getl (ls ++ L2) k = getl L2 (k - ls.length) := by
 unfold getl
 simp [List.getElem?_append_right h]
theorem getl_app0 {ls L2 : List (List Int)} {k : Nat} (h : k < ls.length) : getl (ls ++ L2) k = getl ls k := by
 unfold getl
 simp [List.getElem?_append_left h]
theorem Out2x.append {B : Nat} {w w1 : World} {v v1 : Value} {ls L2 : List (List Int)} {vs news : List Value} {bk b2 : Nat → Nat} (h : Out2x B w v ls vs bk)
  (hx : ∀ k, k < L2.length → ∃ rv, news[k]? = some rv ∧ X1 w rv (getl L2 k) (b2 k))
  (hb : ∀ k, k < L2.length → getl L2 k ≠ [] → B ≤ b2 k ∧ v.ownBlock ≠ some (b2 k) ∧ (∀ j, j < L2.length → j ≠ k → getl L2 j ≠ [] → b2 j ≠ b2 k) ∧ ∀ j, j < ls.length → getl ls j ≠ [] → bk j ≠ b2 k)
  (hown : w1.ownsRow B 44 1 v1 (ls.length + L2.length) (vs ++ news)) (hg : w.grownBy w1 v.ownBlock) (hblk : v1.ownBlock = v.ownBlock ∨ ∃ g, v1.ownBlock = some g ∧ w.heap.size ≤ g) :
  Out2x B w1 v1 (ls ++ L2) (vs ++ news) (fun k => if k < ls.length then bk k else b2 (k - ls.length)) := by
 obtain ⟨h1, h2, h3⟩ := h
 have hvl := h1.1
 have hne1 : ∀ c, c < w.heap.size → v.ownBlock ≠ some c → v1.ownBlock ≠ some c := fun c hc hn e => by
  rcases hblk with e1 | ⟨g, e1, hge⟩
  ·exact hn (e1.symm.trans e)
  ·rw [e] at e1; cases e1; omega
 have hxl : ∀ k, k < ls.length → getl ls k ≠ [] → bk k < w.heap.size := fun k hk hn => by
  obtain ⟨rv, _, h⟩ := h2 k hk; exact h.lt hn
 have hxl2 : ∀ k, k < L2.length → getl L2 k ≠ [] → b2 k < w.heap.size := fun k hk hn => by
  obtain ⟨rv, _, h⟩ := hx k hk; exact h.lt hn
 refine ⟨by simpa using hown, fun k hk => ?_, fun k hk hn => ?_⟩
 ·rw [List.length_append] at hk
  by_cases hkl : k < ls.length
  ·obtain ⟨rv', h4, h5⟩ := h2 k hkl
   refine ⟨rv', by rw [List.getElem?_append_left (by omega)]; exact h4, ?_⟩
   rw [getl_app0 hkl]
   simp only [hkl, if_true]
   exact h5.keep fun hn => hg.block _ (hxl k hkl hn) (fun e => (h3 k hkl hn).2.1 e.symm)
  ·obtain ⟨rv', h4, h5⟩ := hx (k - ls.length) (by omega)
   refine ⟨rv', by rw [List.getElem?_append_right (by omega), show k - vs.length = k - ls.length by omega]; exact h4, ?_⟩
   rw [getl_app3 (by omega)]
   simp only [hkl, if_false]
   exact h5.keep fun hn => hg.block _ (hxl2 _ (by omega) hn) (fun e => (hb _ (by omega) hn).2.1 e.symm)
 ·rw [List.length_append] at hk
  by_cases hkl : k < ls.length
  ·rw [getl_app0 hkl] at hn
   simp only [hkl, if_true]
   obtain ⟨h4, h5, h6⟩ := h3 k hkl hn
   refine ⟨h4, hne1 _ (hxl k hkl hn) h5, fun j hj hjk hnj => ?_⟩
   rw [List.length_append] at hj
   by_cases hjl : j < ls.length
   ·rw [getl_app0 hjl] at hnj
    simp only [hjl, if_true]
    exact h6 j hjl hjk hnj
   ·rw [getl_app3 (by omega)] at hnj
    simp only [hjl, if_false]
    exact fun e => (hb _ (by omega) hnj).2.2.2 k hkl hn e.symm
  ·rw [getl_app3 (by omega)] at hn
   simp only [hkl, if_false]
   obtain ⟨h4, h5, h6, h7⟩ := hb _ (by omega) hn
   refine ⟨h4, hne1 _ (hxl2 _ (by omega) hn) h5, fun j hj hjk hnj => ?_⟩
   rw [List.length_append] at hj
   by_cases hjl : j < ls.length
   ·rw [getl_app0 hjl] at hnj
    simp only [hjl, if_true]
    exact h7 j hjl hnj
   ·rw [getl_app3 (by omega)] at hnj
    simp only [hjl, if_false]
    exact h6 _ (by omega) (by omega) hnj
theorem getl_takeW {ls : List (List Int)} {n k : Nat} (h : k < n) : getl (ls.take n) k = getl ls k := by
 unfold getl; rw [List.getD_eq_getElem?_getD, List.getD_eq_getElem?_getD, List.getElem?_take, if_pos h]
/-- The table, and what is gathered out of it when j levels are over. -/
structure WgO (B BB TB D OB2 : Nat) (s : Nat → List (List Int)) (cs : Array Value) (vals : Nat → Value) (vss : Nat → List Value) (bks : Nat → Nat → Nat) (out : List (List Int)) (ov : Value) (vs : List Value) (bo : Nat → Nat) (j : Nat) (w : World) : Prop where
 tabl : WgAt B TB D s cs vals vss bks w
 box : w.heap[OB2]? = some (.cells #[ov] 24 (0, 0))
 outs : Out2x B w ov out vs bo
 src : ∀ i, i < out.length → getl out i ≠ [] → ∃ k p, D < k + j ∧ k ≤ D ∧ p < (s k).length ∧ getl (s k) p ≠ [] ∧ bo i = bks k p
 own : ∀ g, ov.ownBlock = some g → BB ≤ g ∧ g ≠ OB2
 low : ∀ b, FamF TB D vals s bks b → b < BB
 high : BB ≤ OB2
theorem WgO.step {B BB TB D OB2 : Nat} {s : Nat → List (List Int)} {cs : Array Value} {vals : Nat → Value} {vss : Nat → List Value} {bks : Nat → Nat → Nat} {out : List (List Int)} {ov v1 : Value} {vs : List Value} {bo : Nat → Nat} {j k n : Nat} {w w1 : World}
  (h : WgO B BB TB D OB2 s cs vals vss bks out ov vs bo j w) (hk : k + j = D) (hn : n ≤ (s k).length)
  (hown : w1.ownsRow B 44 1 v1 (out.length + n) (vs ++ (vss k).take n)) (hg : w.grownBy w1 ov.ownBlock) (hblk : v1.ownBlock = ov.ownBlock ∨ ∃ g, v1.ownBlock = some g ∧ w.heap.size ≤ g) :
  WgO B BB TB D OB2 s cs vals vss bks (out ++ (s k).take n) v1 (vs ++ (vss k).take n) (fun i => if i < out.length then bo i else bks k (i - out.length)) (j + 1) (w1.setCell ⟨OB2, 0, none⟩ v1) := by
 have hkD : k ≤ D := by omega
 have hE := h.tabl.each k hkD
 have hl2 : ((s k).take n).length = n := by rw [List.length_take]; omega
 have hOlt := lt_of_heap h.box
 have hin : ∀ p, p < n → getl (s k) p ≠ [] → FamF TB D vals s bks (bks k p) := fun p hp hne => .inr ⟨k, hkD, .inr ⟨p, by omega, hne, rfl⟩⟩
 have hA := Out2x.append (L2 := (s k).take n) (news := (vss k).take n) (b2 := bks k) h.outs (fun p hp => by
   rw [hl2] at hp
   obtain ⟨rv, h1, h2⟩ := hE.2.1 p (by omega)
   refine ⟨rv, by rw [List.getElem?_take, if_pos hp]; exact h1, by rw [getl_takeW hp]; exact h2⟩) (fun p hp hne => by
   rw [hl2] at hp
   rw [getl_takeW hp] at hne
   obtain ⟨h1, h2, h3⟩ := hE.2.2 p (by omega) hne
   refine ⟨h1, fun e => ?_, fun q hq hqp hnq => ?_, fun i hi hni e => ?_⟩
   ·have := h.low _ (hin p hp hne); have := (h.own _ e).1; omega
   ·rw [hl2] at hq
    rw [getl_takeW hq] at hnq
    exact h3 q (by omega) hqp hnq
   ·obtain ⟨k2, p2, g1, g2, g3, g4, g5⟩ := h.src i hi hni
    exact h.tabl.sep k2 k g2 hkD (by omega) (bks k p) (.inr ⟨p2, g3, g4, by rw [← e, g5]⟩) (.inr ⟨p, by omega, hne, rfl⟩)) (by rw [hl2]; exact hown) hg hblk
 have hsz : w.heap.size ≤ w1.heap.size := hg.size
 have hown1 : ∀ g, v1.ownBlock = some g → BB ≤ g ∧ g ≠ OB2 := fun g hg1 => by
  rcases hblk with e | ⟨g', e, hge⟩
  ·exact h.own g (e ▸ hg1)
  ·rw [hg1] at e
   cases e
   have := h.high
   exact ⟨by omega, by omega⟩
 have hsrc : ∀ i, i < (out ++ (s k).take n).length → getl (out ++ (s k).take n) i ≠ [] → ∃ k2 p, D < k2 + (j + 1) ∧ k2 ≤ D ∧ p < (s k2).length ∧ getl (s k2) p ≠ [] ∧ (if i < out.length then bo i else bks k (i - out.length)) = bks k2 p := fun i hi hne => by
  rw [List.length_append, hl2] at hi
  by_cases hio : i < out.length
  ·rw [getl_app0 hio] at hne
   obtain ⟨k2, p2, g1, g2, g3, g4, g5⟩ := h.src i hio hne
   exact ⟨k2, p2, by omega, g2, g3, g4, by rw [if_pos hio]; exact g5⟩
  ·rw [getl_app3 (by omega), getl_takeW (by omega)] at hne
   exact ⟨k, i - out.length, by omega, hkD, by omega, hne, by rw [if_neg hio]⟩
 have hbx : w1.heap[OB2]? = some (.cells #[ov] 24 (0, 0)) := (hg.block OB2 hOlt (fun e => (h.own OB2 e.symm).2 rfl)).trans h.box
 refine ⟨h.tabl.stay (by simpa [World.setCell] using hsz) fun b hb => ?_, ?_, hA.lo fun b hb => heap_setCell_other _ fun e => ?_, hsrc, hown1, h.low, h.high⟩
 ·have h1 := h.low b hb
  have h2 := h.tabl.lt b hb
  rw [heap_setCell_other _ (by have := h.high; show b ≠ OB2; omega)]
  exact hg.block b h2 (fun e => by have := (h.own b e.symm).1; omega)
 ·have := heap_setCell_self (off := 0) hbx v1
  simpa using this
 ·have e2 : b = OB2 := e
  rcases hb with h1 | ⟨i, h1, h2, h3⟩
  ·exact (hown1 b h1).2 e2
  ·obtain ⟨k2, p2, g1, g2, g3, g4, g5⟩ := hsrc i h1 h2
   have h5 := h.low (bks k2 p2) (.inr ⟨k2, g2, .inr ⟨p2, g3, g4, rfl⟩⟩)
   have := h.high
   have h3' : b = bks k2 p2 := h3.trans g5
   omega
end Go.Proofs.YtmjplkbmhdkggaaGreat
