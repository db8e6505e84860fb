/- The program's search for designs from a key on: one visit. No conditions. -/
import Derived.Laws.EntriesVeiled
import Derived.Test.YtmfgdoflddhngaaGreatMDraw14
import Derived.Test.YtmfgdoflddhngaaGreatEach6
import Derived.Test.YtmfgdoflddhngaaGreatMGhF
import Derived.Test.YtmfgdoflddhngaaGreatCntK
namespace Go.Proofs.YtmfgdoflddhngaaGreat
open Go.RowKit
set_option linter.unusedVariables false
set_option linter.unusedSimpArgs false

theorem neqSomeS (w : World) (ad : Addr) (n c : Nat) : Sem.run Tryz.prog (binOp .neq 46 (.slice (some ad) n c) (.slice none 0 0)) w = .ok (.bool true) w := by kernel_rfl
theorem G1Post.pre {τ : Type} {m : Mk} {tv : Value} {limit : Nat} {fv : Value} {XB MB : Nat} {VI : τ → (Nat → Prop) → World → Prop} {F : Nat → Prop} {w wn : World} {r : GSt τ × Bool} {e : Ending} {w' : World} (hb : Below w.heap.size w wn) (h : G1Post m tv limit fv XB MB VI F wn r e w') : G1Post m tv limit fv XB MB VI F w r e w' := by
  obtain ⟨F', h1, h2, h3, h4, h5⟩ := h
  exact ⟨F', h1, h2, h3, (Chg.of_below hb).trans h4 (fun i hi => .inl hi), fun b hb' => by
    rcases h5 b hb' with h | h
    · exact .inl h
    · right; have := hb.size; omega⟩
end Go.Proofs.YtmfgdoflddhngaaGreat

namespace Go.Proofs.YtmfgdoflddhngaaGreat
open Go.RowKit
set_option linter.unusedVariables false
set_option linter.unusedSimpArgs false

section
variable {σ : Type} {m : Mk} {w0 : World} {F0 : Nat → Prop} {f : FuncId} {caps : Array Value} {step : σ → List Int → σ × Bool} {s0 : σ} {L : List (List Int)} {Inv : σ → (Nat → Prop) → World → Prop} {o : EK} {fv av : Value} {A : Nat → Int → Bool} {fr : List Int}
set_option maxRecDepth 100000 in
theorem eachKey_from {fad : Addr} {frc : Nat} (hm : m.ok = true) (w : World) (V : VisOk m.c.toNat w F0 f caps step s0 (genF m A fr true m.c.toNat []) Inv) (hA1 : ∀ k x, A k x = true) (hfr : FrOk m w F0 (.slice (some fad) fr.length frc) fr) (hI : Inv s0 F0 w) :
    Calls Tryz.prog 144 #[.agg #[.int .i64 m.c, .int .i64 m.d, .int .i64 m.s, .int .i64 m.e, .int .i64 m.l], .slice (some fad) fr.length frc, .nilFunc, .func (.func f) #[] caps] w
      (fun e w' => ∃ F', Inv (runL step s0 (genF m A fr true m.c.toNat [])).1 F' w' ∧ Chg F0 w w' ∧ (∀ b, F' b → F0 b ∨ w.heap.size ≤ b) ∧ e = .returned undef) := by
  have hS := neqSomeS
  have hmk := Mk.ok_iff.1 hm
  have hl : (([] : List Int).length : Int) + m.c.toNat = m.c := by simp; omega
  have Hl := Lib.hid hl; clear hl hmk
  have hES := es_make (σ := σ) m w (.slice (some fad) fr.length frc) .nilFunc (.func (.func f) #[] caps) 25 46 190 130 46 192 V.keep (V.lt _ _ _ hI) hI
  have HES := Lib.hid hES; clear hES
  have HV := Lib.hid V; clear V hI
  have HFR := Lib.hid hfr; clear hfr
  go_enter Tryz.func144, Tryz.ntmps144
  go_wp2_with fail
  refine (cut_tight hm HV.out hA1 HFR.out m.c.toNat s0 F0 _ [] _ [] [] Hl.out (fun k hk => by simp at hk) (by simp) rfl HES.out).mono ?_
  rintro e w' ⟨F', kv', rfl, hE⟩
  have HE := Lib.hid hE; clear hE
  go_wp2_with fail
  go_end0
  exact ⟨F', HE.out.inv, HE.out.chg, HE.out.sub, rfl⟩
end
end Go.Proofs.YtmfgdoflddhngaaGreat

namespace Go.Proofs.YtmfgdoflddhngaaGreat
open Go.RowKit
set_option linter.unusedVariables false
set_option linter.unusedSimpArgs false

def fkStep (most : Int) (s : List (List Int)) (key : List Int) : List (List Int) × Bool := (s ++ [key], decide ((s.length : Int) + 1 < most))
theorem fk_run (M : Nat) : ∀ (l s : List (List Int)), s.length < M → (runL (fkStep (M : Int)) s l).1 = s ++ l.take (M - s.length)
  | [], s, h => by simp [runL]
  | k :: l, s, h => by
    rw [runL]
    by_cases hm : s.length + 1 < M
    · have e : (fkStep (M : Int) s k).2 = true := decide_eq_true (by omega)
      rw [if_pos e]
      have := fk_run M l (s ++ [k]) (by simp; omega)
      show (runL _ (s ++ [k]) l).1 = _
      rw [this, List.append_assoc]
      congr 1
      rw [show M - s.length = (M - (s ++ [k]).length) + 1 by simp; omega]
      rfl
    · have e : (fkStep (M : Int) s k).2 = false := decide_eq_false (by omega)
      rw [if_neg (by rw [e]; exact Bool.false_ne_true), show M - s.length = 0 + 1 by omega]
      simp [fkStep]
def FkInv (B OB : Nat) (s : List (List Int)) (F : Nat → Prop) (w : World) : Prop :=
  ∃ lv vs bk, (∀ b, F b ↔ OutF OB lv s bk b) ∧ w.heap[OB]? = some (.cells #[lv] 26 (0, 0)) ∧ Out2x B w lv s vs bk ∧ ¬ OutG lv s bk OB ∧ B ≤ w.heap.size
theorem enters_fk : Enters 262 := fun args w => by kernel_rfl
set_option maxRecDepth 100000 in
set_option maxHeartbeats 2000000 in
theorem fk1_any {S : Nat → Prop} (kv lv : Value) (key : List Int) (s : List (List Int)) (vs : List Value) (bk : Nat → Nat) (B OB MB : Nat) (most : Int) (w : World) (hk : V1 S w kv key)
    (hM : w.cell? ⟨MB, 0, none⟩ = some (.int .i64 most)) (hl : w.heap[OB]? = some (.cells #[lv] 26 (0, 0))) (hO : Out2x B w lv s vs bk) (hOB : ¬ OutG lv s bk OB) (hB : B ≤ w.heap.size) (hne : True ∧ MB ≠ OB)
    (hMf : lv.ownBlock ≠ some MB) (hkl : key.length ≤ 1000) (hsl : s.length ≤ 300000) :
    Calls Tryz.prog 262 #[kv, .pointer (some ⟨OB, 0, none⟩), .pointer (some ⟨MB, 0, none⟩)] w fun e w' => e = .returned (.bool (fkStep most s key).2) ∧
      ∃ lv' vs' bk', w'.heap[OB]? = some (.cells #[lv'] 26 (0, 0)) ∧ Out2x B w' lv' (fkStep most s key).1 vs' bk' ∧ ¬ OutG lv' (fkStep most s key).1 bk' OB ∧ Chg (OutF OB lv s bk) w w' ∧ ∀ b, OutF OB lv' (fkStep most s key).1 bk' b → OutF OB lv s bk b ∨ w.heap.size ≤ b := by
  obtain ⟨ka, kc, rfl, hkm⟩ := hk.form
  obtain ⟨oa, oc, rfl, ho1, ho2⟩ := own_form hO.1
  have hcl := cell_of_block hl 0
  simp at hcl
  have hdr : Below w.heap.size w w.drew := (Below.refl _ _).drew
  obtain ⟨i0, hi, hz0, hz1, hz2⟩ := info_parts inf_ints
  have hst : fkStep most s key = (s ++ [key], decide ((s.length : Int) + 1 < most)) := rfl
  rw [hst]
  have HO := Lib.hid (And.intro hO hst); clear hO hst
  have Hl := Lib.hid hl; clear hl
  have Hhk := Lib.hid hk
  obtain ⟨r, hr⟩ : ∃ r, decide ((s.length : Int) + 1 < most) = r := ⟨_, rfl⟩
  rw [hr]
  have hlk : key.length ≤ 1048576 := by omega
  have hMlt := lt_of_cell hM
  cases r
  · skip
    go_enter Tryz.func262, Tryz.ntmps262
    go_wp2_with fail
    go_region_law (first | (go_simp; go_at_call 186; refine (slClone_any _ key _ (hk.below hdr) hlk).mono ?_; rintro e' w3 ⟨v3, rfl, ⟨b3, hx3, hb3n⟩, hbc⟩; obtain ⟨a3, c3, rfl, hcc3, _⟩ := id hx3; have hb3 : Below w.heap.size w w3 := hdr.trans (hbc.mono (Nat.le_refl _)); obtain ⟨hown3, hh3, hcl3, hfl3⟩ := hull_after HO.out.1.1 Hl.out hb3; have hz3 := lt_of_heap hh3; have hcl3a : ∀ o, (w3.alloc o).cell? ⟨OB, 0, none⟩ = some (.slice oa s.length oc) := (fun o => cell_keep hcl3 (Below.heap_alloc _ _ _ hz3)); (try dsimp only)) | (refine step_append_lies _ (by rfl) _ _ _ (by rfl) B 46 i0 _ 1 24 Tryz.underlying26 hi hz0 hz1 hz2 rfl (by omega) _ s.length _ (by rfl) (hown3.alloc _) ⟨_, 0, none⟩ 1 1 [.slice a3 key.length c3] (by rfl) (by rfl) (World.news_of_block (heap_alloc_new _ _)) (by simp [Value.oneCell']) (by omega) (by unfold maxLen; omega) (by omega) (by have := hb3.size; simp; omega) _ rfl ?_; intro gg cap w4 hown4 hgrow4 hat4 hlt4; obtain ⟨hh4, hcl4, hfl4⟩ := grown_alloc_at hh3 hgrow4 (fun e => hOB (.inl e))))
    all_goals
      have hz4 := hgrow4.size
      simp only [World.size_alloc] at hz4
      have hz3w := hb3.size
      have hb3a : Below w.heap.size w (w3.alloc (.cells #[.slice a3 key.length c3] 46)) := hb3.alloc hb3.size _
      have hO4 := Out2x.push HO.out.1 hB hb3a (hx3.alloc _) (fun hn => hb3n hn) hown4 hgrow4 (blk_or rfl hat4)
      have hM4 := cell_keep hM ((hgrow4.block MB (by simp; omega) (fun e => hMf e.symm)).trans (hb3a.block MB hMlt))
      have hM5 : (w4.setCell ⟨OB, 0, none⟩ (.slice (some ⟨gg, 0, none⟩) (s.length + 1) cap)).cell? ⟨MB, 0, none⟩ = some (.int .i64 most) := cell_keep hM4 (heap_setCell_other _ (fun e => hne.2 e))
      have hs4 := heap_setCell_self (off := 0) hh4 (.slice (some ⟨gg, 0, none⟩) (s.length + 1) cap)
      have hcl5 := cell_of_block hs4 0
      simp at hcl5
      have hG5 := OutG.push (b3 := b3) (z := w.heap.size) (v := .slice oa s.length oc) (v' := .slice (some ⟨gg, 0, none⟩) (s.length + 1) cap) (ls := s) (l := key) (bk := bk) (by rcases blk_or (v1 := .slice (some ⟨gg, 0, none⟩) (s.length + 1) cap) rfl hat4 with e | ⟨g, e, h⟩; exact .inl e; exact .inr ⟨g, e, by have := hb3a.size; omega⟩) (fun hn => hb3n hn)
      have hOBlt := lt_of_heap Hl.out
      have hOB5 : ¬ OutG (.slice (some ⟨gg, 0, none⟩) (s.length + 1) cap) (s ++ [key]) (fun k => if k < s.length then bk k else b3) OB := fun hb => by rcases hG5 OB hb with h | h; exact hOB h; omega
      have hO5 := Out2x.lo hO4 (w' := w4.setCell ⟨OB, 0, none⟩ (.slice (some ⟨gg, 0, none⟩) (s.length + 1) cap)) (fun b hb => heap_setCell_other _ (fun e => hOB5 (by have e2 : b = OB := e; rw [← e2]; exact hb)))
      have hch : Chg (OutF OB (.slice oa s.length oc) s bk) w w4 := (Chg.of_below hb3a).grown hgrow4 (fun k hk => .inl (.inr (.inl hk)))
      have hch5 := hch.setCell (p := ⟨OB, 0, none⟩) (.inl (.inl rfl)) (.slice (some ⟨gg, 0, none⟩) (s.length + 1) cap)
      have hF5 : ∀ b, OutF OB (.slice (some ⟨gg, 0, none⟩) (s.length + 1) cap) (s ++ [key]) (fun k => if k < s.length then bk k else b3) b → OutF OB (.slice oa s.length oc) s bk b ∨ w.heap.size ≤ b := fun b hb => by rcases hb with e | h; exact .inl (.inl e); rcases hG5 b h with h | h; exact .inl (.inr h); exact .inr h
      have H5 := Lib.hid (And.intro hs4 (And.intro hO5 (And.intro hOB5 (And.intro hch5 hF5)))); clear hs4 hO5 hch5 hF5 hch hO4 hOB5 hG5
      go_wp2_with fail
      go_ret
      exact ⟨rfl, _, _, _, H5.out.1, H5.out.2.1, H5.out.2.2.1, H5.out.2.2.2.1, H5.out.2.2.2.2⟩
  · skip
    go_enter Tryz.func262, Tryz.ntmps262
    go_wp2_with fail
    go_region_law (first | (go_simp; go_at_call 186; refine (slClone_any _ key _ (hk.below hdr) hlk).mono ?_; rintro e' w3 ⟨v3, rfl, ⟨b3, hx3, hb3n⟩, hbc⟩; obtain ⟨a3, c3, rfl, hcc3, _⟩ := id hx3; have hb3 : Below w.heap.size w w3 := hdr.trans (hbc.mono (Nat.le_refl _)); obtain ⟨hown3, hh3, hcl3, hfl3⟩ := hull_after HO.out.1.1 Hl.out hb3; have hz3 := lt_of_heap hh3; have hcl3a : ∀ o, (w3.alloc o).cell? ⟨OB, 0, none⟩ = some (.slice oa s.length oc) := (fun o => cell_keep hcl3 (Below.heap_alloc _ _ _ hz3)); (try dsimp only)) | (refine step_append_lies _ (by rfl) _ _ _ (by rfl) B 46 i0 _ 1 24 Tryz.underlying26 hi hz0 hz1 hz2 rfl (by omega) _ s.length _ (by rfl) (hown3.alloc _) ⟨_, 0, none⟩ 1 1 [.slice a3 key.length c3] (by rfl) (by rfl) (World.news_of_block (heap_alloc_new _ _)) (by simp [Value.oneCell']) (by omega) (by unfold maxLen; omega) (by omega) (by have := hb3.size; simp; omega) _ rfl ?_; intro gg cap w4 hown4 hgrow4 hat4 hlt4; obtain ⟨hh4, hcl4, hfl4⟩ := grown_alloc_at hh3 hgrow4 (fun e => hOB (.inl e))))
    all_goals
      have hz4 := hgrow4.size
      simp only [World.size_alloc] at hz4
      have hz3w := hb3.size
      have hb3a : Below w.heap.size w (w3.alloc (.cells #[.slice a3 key.length c3] 46)) := hb3.alloc hb3.size _
      have hO4 := Out2x.push HO.out.1 hB hb3a (hx3.alloc _) (fun hn => hb3n hn) hown4 hgrow4 (blk_or rfl hat4)
      have hM4 := cell_keep hM ((hgrow4.block MB (by simp; omega) (fun e => hMf e.symm)).trans (hb3a.block MB hMlt))
      have hM5 : (w4.setCell ⟨OB, 0, none⟩ (.slice (some ⟨gg, 0, none⟩) (s.length + 1) cap)).cell? ⟨MB, 0, none⟩ = some (.int .i64 most) := cell_keep hM4 (heap_setCell_other _ (fun e => hne.2 e))
      have hs4 := heap_setCell_self (off := 0) hh4 (.slice (some ⟨gg, 0, none⟩) (s.length + 1) cap)
      have hcl5 := cell_of_block hs4 0
      simp at hcl5
      have hG5 := OutG.push (b3 := b3) (z := w.heap.size) (v := .slice oa s.length oc) (v' := .slice (some ⟨gg, 0, none⟩) (s.length + 1) cap) (ls := s) (l := key) (bk := bk) (by rcases blk_or (v1 := .slice (some ⟨gg, 0, none⟩) (s.length + 1) cap) rfl hat4 with e | ⟨g, e, h⟩; exact .inl e; exact .inr ⟨g, e, by have := hb3a.size; omega⟩) (fun hn => hb3n hn)
      have hOBlt := lt_of_heap Hl.out
      have hOB5 : ¬ OutG (.slice (some ⟨gg, 0, none⟩) (s.length + 1) cap) (s ++ [key]) (fun k => if k < s.length then bk k else b3) OB := fun hb => by rcases hG5 OB hb with h | h; exact hOB h; omega
      have hO5 := Out2x.lo hO4 (w' := w4.setCell ⟨OB, 0, none⟩ (.slice (some ⟨gg, 0, none⟩) (s.length + 1) cap)) (fun b hb => heap_setCell_other _ (fun e => hOB5 (by have e2 : b = OB := e; rw [← e2]; exact hb)))
      have hch : Chg (OutF OB (.slice oa s.length oc) s bk) w w4 := (Chg.of_below hb3a).grown hgrow4 (fun k hk => .inl (.inr (.inl hk)))
      have hch5 := hch.setCell (p := ⟨OB, 0, none⟩) (.inl (.inl rfl)) (.slice (some ⟨gg, 0, none⟩) (s.length + 1) cap)
      have hF5 : ∀ b, OutF OB (.slice (some ⟨gg, 0, none⟩) (s.length + 1) cap) (s ++ [key]) (fun k => if k < s.length then bk k else b3) b → OutF OB (.slice oa s.length oc) s bk b ∨ w.heap.size ≤ b := fun b hb => by rcases hb with e | h; exact .inl (.inl e); rcases hG5 b h with h | h; exact .inl (.inr h); exact .inr h
      have H5 := Lib.hid (And.intro hs4 (And.intro hO5 (And.intro hOB5 (And.intro hch5 hF5)))); clear hs4 hO5 hch5 hF5 hch hO4 hOB5 hG5
      go_wp2_with fail
      go_ret
      exact ⟨rfl, _, _, _, H5.out.1, H5.out.2.1, H5.out.2.2.1, H5.out.2.2.2.1, H5.out.2.2.2.2⟩
theorem fk_ok (m : Mk) (hm : m.ok = true) (L : List (List Int)) (hL9 : L.length ≤ 262144) (M : Nat) (B OB MB : Nat) (W : World) (F0 : Nat → Prop) (hM : W.cell? ⟨MB, 0, none⟩ = some (.int .i64 M)) (hne : ¬ F0 MB) :
    VisOk m.c.toNat W F0 262 #[.pointer (some ⟨OB, 0, none⟩), .pointer (some ⟨MB, 0, none⟩)] (fkStep (M : Int)) [] L (FkInv B OB) := by
  refine ⟨enters_fk, ?_, ?_, ?_⟩
  · rintro s F w w' ⟨lv, vs, bk, h1, h2, h3, h4, h5⟩ hz hk
    exact ⟨lv, vs, bk, h1, by rw [hk OB ((h1 OB).2 (.inl rfl))]; exact h2, h3.lo fun b hb => hk b ((h1 b).2 (.inr hb)), h4, Nat.le_trans h5 hz⟩
  · rintro s F w ⟨lv, vs, bk, h1, h2, h3, h4, h5⟩ b hb
    exact h3.lt (lt_of_heap h2) b ((h1 b).1 hb)
  · rintro s F S w v key done rest hL hr ⟨lv, vs, bk, h1, h2, h3, h4, h5⟩ hchg hsub hV hS hkl
    have hsl : s.length ≤ done.length := by
      have h6 : ∀ (l s0 : List (List Int)), (runL (fkStep (M : Int)) s0 l).1.length ≤ s0.length + l.length := by
        intro l
        induction l with
        | nil => intro s0; simp [runL]
        | cons k l ih =>
          intro s0
          rw [runL]
          split
          · have := ih (fkStep (M : Int) s0 k).1
            have e : (fkStep (M : Int) s0 k).1.length = s0.length + 1 := by simp [fkStep]
            simp only [List.length_cons]; omega
          · have e : (fkStep (M : Int) s0 k).1.length = s0.length + 1 := by simp [fkStep]
            simp only [List.length_cons]; show (fkStep (M : Int) s0 k).1.length ≤ _; omega
      have := h6 done []
      rw [hr] at this
      simpa using this
    rw [hL] at hL9
    simp at hL9
    have hnM : ¬ F MB := fun h => by rcases hsub _ h with h | h; exact hne h; have h9 : MB < W.heap.size := lt_of_cell hM; omega
    have hmk := Mk.ok_iff.1 hm
    refine (fk1_any v lv key s vs bk B OB MB (M : Int) w hV (cell_keep hM (hchg.block _ (lt_of_cell hM) hne)) h2 h3 h4 h5 ⟨trivial, fun e => hnM ((h1 _).2 (.inl e))⟩ (fun e => hnM ((h1 _).2 (.inr (.inl e)))) (by omega) (by omega)).mono ?_
    rintro e w' ⟨rfl, lv', vs', bk', h6, h7, h8, h9, h10⟩
    refine ⟨OutF OB lv' (fkStep (M : Int) s key).1 bk', rfl, ⟨lv', vs', bk', fun b => Iff.rfl, h6, h7, h8, Nat.le_trans h5 h9.size⟩, h9.mono (fun b hb => (h1 b).2 hb), fun b hb => ?_⟩
    rcases h10 b hb with h | h
    · exact .inl ((h1 b).2 h)
    · exact .inr h
set_option maxRecDepth 100000 in
set_option maxHeartbeats 2000000 in
theorem firstKeys_nil (m : Mk) (hm : m.ok = true) (M : Nat) (hM1 : 1 ≤ M ∧ M ≤ 1000) (W : World) :
    Calls Tryz.prog 175 #[.agg #[.int .i64 m.c, .int .i64 m.d, .int .i64 m.s, .int .i64 m.e, .int .i64 m.l], .slice none 0 0, .nilFunc, .int .i64 (M : Int)] W fun e w' => ∃ v', e = .returned v' ∧ F2 W.heap.size w' v' ((keysOf m).take M) ∧ Below W.heap.size W w' := by
  have hmk := Mk.ok_iff.1 hm
  obtain ⟨w2, hw2⟩ : ∃ w2, w2 = (W.alloc (.cells #[.int .i64 m.c, .int .i64 m.d, .int .i64 m.s, .int .i64 m.e, .int .i64 m.l] 25)).alloc (.cells #[.int .i64 (M : Int)] 2) := ⟨_, rfl⟩
  have hbA : Below W.heap.size W w2 := by rw [hw2]; exact by (repeat (first | (with_reducible refine Below.setCell ?_ ?_ _) | (with_reducible refine Below.alloc ?_ ?_ _) | (with_reducible refine Below.drew ?_) | (with_reducible refine below_drewN ?_ _) | (with_reducible exact Below.refl _ _) | (with_reducible assumption) | (with_reducible refine Below.trans ?_ (Below.mono (by with_reducible assumption) ?_)) | go_size))
  have hzA : w2.heap.size = W.heap.size + 2 := by rw [hw2]; simp
  have hA0 : w2.heap[W.heap.size]? = some (.cells #[.int .i64 m.c, .int .i64 m.d, .int .i64 m.s, .int .i64 m.e, .int .i64 m.l] 25 (0, 0)) := by rw [hw2]; simp only [heap_alloc_at, World.size_alloc]; simp
  have hA1 : w2.heap[W.heap.size + 1]? = some (.cells #[.int .i64 (M : Int)] 2 (0, 0)) := by rw [hw2]; simp only [heap_alloc_at, World.size_alloc]; simp
  obtain ⟨w3, hw3, hb23, hz23, HZ23, _, _⟩ := box_facts w2 #[] 46
  obtain ⟨w4, hw4, hb34, hz34, HZ34, _, hh34⟩ := box_facts w3 #[.slice (some ⟨w2.heap.size, 0, none⟩) 0 0] 26
  have hb24 := hb23.trans (hb34.mono hb23.size)
  have hown3 : w3.ownsRow W.heap.size 46 1 (.slice (some ⟨w2.heap.size, 0, none⟩) 0 0) 0 [] := by rw [hw3]; exact own_lit0 w2 _ _ 1 (by omega)
  have hown4 := own_keep hown3 hb34
  have e3 := HZ23.out
  have e4 := HZ34.out
  have hw4x : w4 = (((W.alloc (.cells #[.int .i64 m.c, .int .i64 m.d, .int .i64 m.s, .int .i64 m.e, .int .i64 m.l] 25)).alloc (.cells #[.int .i64 (M : Int)] 2)).alloc (.cells #[] 46)).alloc (.cells #[.slice (some ⟨W.heap.size + 2, 0, none⟩) 0 0] 26) := by rw [hw4, hw3, hw2]; simp
  have hM4 : w4.cell? ⟨W.heap.size + 1, 0, none⟩ = some (.int .i64 (M : Int)) := cell_of_block (heap_below hA1 hb24 (by omega)) 0
  have hK4 := heap_below hA0 hb24 (by omega)
  have hc4 : ∀ o, w4.cell? ⟨W.heap.size, o, none⟩ = (#[.int .i64 m.c, .int .i64 m.d, .int .i64 m.s, .int .i64 m.e, .int .i64 m.l] : Array Value)[o]? := fun o => cell_of_block hK4 o
  have hh4 : w4.heap[W.heap.size + 3]? = some (.cells #[.slice (some ⟨w2.heap.size, 0, none⟩) 0 0] 26 (0, 0)) := by rw [show W.heap.size + 3 = w3.heap.size by omega]; exact hh34
  have hbA4 := hbA.trans (hb24.mono hbA.size)
  obtain ⟨F0, hF0⟩ : ∃ F0, F0 = OutF (W.heap.size + 3) (.slice (some ⟨w2.heap.size, 0, none⟩) 0 0) [] (fun _ => 0) := ⟨_, rfl⟩
  have hFb : ∀ b, F0 b → W.heap.size + 2 ≤ b := fun b hb => by
    rw [hF0] at hb
    rcases hb with e | e | ⟨k, h1, _⟩
    · omega
    · have e2 : w2.heap.size = b := by simpa [Value.ownBlock] using e
      omega
    · simp at h1
  have hnM : ¬ F0 (W.heap.size + 1) := fun hb => by have := hFb _ hb; omega
  have hI : FkInv W.heap.size (W.heap.size + 3) [] F0 w4 := by
    refine ⟨_, [], fun _ => 0, fun b => by rw [hF0], hh4, ⟨hown4, fun k hk => by simp at hk, fun k hk => by simp at hk⟩, fun hb => ?_, by omega⟩
    rcases hb with e | ⟨k, h1, _⟩
    · simp [Value.ownBlock] at e; omega
    · simp at h1
  have hM0 : (0 : Int) < (M : Int) := by omega
  have hEK := eachKey_any (A := fun _ _ => true) hm w4 (by rw [genF_free]; exact fk_ok m hm (keysOf m) (keysOf_length hm) M W.heap.size (W.heap.size + 3) (W.heap.size + 1) w4 F0 hM4 hnM) (.inl ⟨rfl, fun _ _ => rfl⟩) hI; rw [show genF m (fun _ _ => true) [] false m.c.toNat [] = keysOf m from genF_free m [] _ _] at hEK
  have hrun := fk_run M (keysOf m) [] (by simp; omega)
  rw [List.nil_append, List.length_nil, Nat.sub_zero] at hrun
  have HE := Lib.hid (And.intro hEK (And.intro hrun (And.intro hFb (And.intro hbA4 hw4x)))); clear hEK hrun hFb hbA4 hw4x hI hnM hM4 hh4 hown4 hown3 hh34 hw3 hw4 hw2 hA0 hA1 e3 e4 HZ23 HZ34 hK4 hF0 hM1
  go_enter Tryz.func175, Tryz.ntmps175
  go_wp2_with fail
  rw [← HE.out.2.2.2.2]
  (try go_wp2_with fail)
  refine HE.out.1.mono ?_
  rintro e' w5 ⟨F', ⟨lv, vs, bk, h1, h2, h3, h4, h5⟩, hchg, hsub, rfl⟩
  rw [HE.out.2.1] at h1 h3 h4
  have hc5 := cell_of_block h2 0
  simp at hc5
  have Hfin := Lib.hid (And.intro h3.out.f2 hchg); clear h3 hchg h1 h2 h4 hc4
  go_wp2_with fail
  go_ret
  exact ⟨_, rfl, Hfin.out.1, HE.out.2.2.2.1.trans (Hfin.out.2.to_below (fun i hi => by have := HE.out.2.2.1 i hi; omega) HE.out.2.2.2.1.size)⟩
set_option maxRecDepth 100000 in
set_option maxHeartbeats 2000000 in
theorem firstKeys_from {S : Nat → Prop} (m : Mk) (hm : m.ok = true) (fr : List Int) (hk : isKeyB m fr = true) (fa : Addr) (frc : Nat) (M : Nat) (hM1 : 1 ≤ M ∧ M ≤ 1000) (W : World) (h : V1 S W (.slice (some fa) fr.length frc) fr) :
    Calls Tryz.prog 175 #[.agg #[.int .i64 m.c, .int .i64 m.d, .int .i64 m.s, .int .i64 m.e, .int .i64 m.l], .slice (some fa) fr.length frc, .nilFunc, .int .i64 (M : Int)] W fun e w' => ∃ v', e = .returned v' ∧ F2 W.heap.size w' v' ((fr :: behind m fr).take M) ∧ Below W.heap.size W w' := by
  have hmk0 := Mk.ok_iff.1 hm
  have hc0 : 0 ≤ m.c := by omega
  have hgf := genF_from hc0 hk
  have hlen : (fr :: behind m fr).length ≤ 262144 := by
    rw [← hgf]
    refine Nat.le_trans (genF_length 8 (by omega) m.c.toNat true []) ?_
    exact Nat.le_trans (Nat.pow_le_pow_right (by decide) (by omega : m.c.toNat ≤ 6)) (by decide)
  have hki := isKey_iff.1 hk
  have hkd : ∀ k, k < fr.length → 0 ≤ geti fr k ∧ geti fr k ≤ 7 := fun k hk => by have := hki.2.1 _ (geti_mem hk); omega
  have hV0 := Lib.hid h.old; clear h
  have hkl := hki.1
  have Hki := Lib.hid (And.intro hkl hkd); clear hki hkd hkl
  have hmk := Mk.ok_iff.1 hm
  obtain ⟨w2, hw2⟩ : ∃ w2, w2 = (W.alloc (.cells #[.int .i64 m.c, .int .i64 m.d, .int .i64 m.s, .int .i64 m.e, .int .i64 m.l] 25)).alloc (.cells #[.int .i64 (M : Int)] 2) := ⟨_, rfl⟩
  have hbA : Below W.heap.size W w2 := by rw [hw2]; exact by (repeat (first | (with_reducible refine Below.setCell ?_ ?_ _) | (with_reducible refine Below.alloc ?_ ?_ _) | (with_reducible refine Below.drew ?_) | (with_reducible refine below_drewN ?_ _) | (with_reducible exact Below.refl _ _) | (with_reducible assumption) | (with_reducible refine Below.trans ?_ (Below.mono (by with_reducible assumption) ?_)) | go_size))
  have hzA : w2.heap.size = W.heap.size + 2 := by rw [hw2]; simp
  have hA0 : w2.heap[W.heap.size]? = some (.cells #[.int .i64 m.c, .int .i64 m.d, .int .i64 m.s, .int .i64 m.e, .int .i64 m.l] 25 (0, 0)) := by rw [hw2]; simp only [heap_alloc_at, World.size_alloc]; simp
  have hA1 : w2.heap[W.heap.size + 1]? = some (.cells #[.int .i64 (M : Int)] 2 (0, 0)) := by rw [hw2]; simp only [heap_alloc_at, World.size_alloc]; simp
  obtain ⟨w3, hw3, hb23, hz23, HZ23, _, _⟩ := box_facts w2 #[] 46
  obtain ⟨w4, hw4, hb34, hz34, HZ34, _, hh34⟩ := box_facts w3 #[.slice (some ⟨w2.heap.size, 0, none⟩) 0 0] 26
  have hb24 := hb23.trans (hb34.mono hb23.size)
  have hown3 : w3.ownsRow W.heap.size 46 1 (.slice (some ⟨w2.heap.size, 0, none⟩) 0 0) 0 [] := by rw [hw3]; exact own_lit0 w2 _ _ 1 (by omega)
  have hown4 := own_keep hown3 hb34
  have e3 := HZ23.out
  have e4 := HZ34.out
  have hw4x : w4 = (((W.alloc (.cells #[.int .i64 m.c, .int .i64 m.d, .int .i64 m.s, .int .i64 m.e, .int .i64 m.l] 25)).alloc (.cells #[.int .i64 (M : Int)] 2)).alloc (.cells #[] 46)).alloc (.cells #[.slice (some ⟨W.heap.size + 2, 0, none⟩) 0 0] 26) := by rw [hw4, hw3, hw2]; simp
  have hM4 : w4.cell? ⟨W.heap.size + 1, 0, none⟩ = some (.int .i64 (M : Int)) := cell_of_block (heap_below hA1 hb24 (by omega)) 0
  have hK4 := heap_below hA0 hb24 (by omega)
  have hc4 : ∀ o, w4.cell? ⟨W.heap.size, o, none⟩ = (#[.int .i64 m.c, .int .i64 m.d, .int .i64 m.s, .int .i64 m.e, .int .i64 m.l] : Array Value)[o]? := fun o => cell_of_block hK4 o
  have hh4 : w4.heap[W.heap.size + 3]? = some (.cells #[.slice (some ⟨w2.heap.size, 0, none⟩) 0 0] 26 (0, 0)) := by rw [show W.heap.size + 3 = w3.heap.size by omega]; exact hh34
  have hbA4 := hbA.trans (hb24.mono hbA.size)
  obtain ⟨F0, hF0⟩ : ∃ F0, F0 = OutF (W.heap.size + 3) (.slice (some ⟨w2.heap.size, 0, none⟩) 0 0) [] (fun _ => 0) := ⟨_, rfl⟩
  have hFb : ∀ b, F0 b → W.heap.size + 2 ≤ b := fun b hb => by
    rw [hF0] at hb
    rcases hb with e | e | ⟨k, h1, _⟩
    · omega
    · have e2 : w2.heap.size = b := by simpa [Value.ownBlock] using e
      omega
    · simp at h1
  have hnM : ¬ F0 (W.heap.size + 1) := fun hb => by have := hFb _ hb; omega
  have hI : FkInv W.heap.size (W.heap.size + 3) [] F0 w4 := by
    refine ⟨_, [], fun _ => 0, fun b => by rw [hF0], hh4, ⟨hown4, fun k hk => by simp at hk, fun k hk => by simp at hk⟩, fun hb => ?_, by omega⟩
    rcases hb with e | ⟨k, h1, _⟩
    · simp [Value.ownBlock] at e; omega
    · simp at h1
  have hM0 : (0 : Int) < (M : Int) := by omega
  have hfo : FrOk m w4 F0 (.slice (some fa) fr.length frc) fr := ⟨(hV0.out.below hbA4).mono (fun b hb _ => ⟨by have hb : b < W.heap.size := hb; omega, fun hf => by have hb : b < W.heap.size := hb; have := hFb b hf; omega⟩) (fun _ _ _ => rfl), Hki.out.1, Hki.out.2⟩; have hEK := eachKey_from (A := fun _ _ => true) hm w4 (by rw [hgf]; exact fk_ok m hm (fr :: behind m fr) hlen M W.heap.size (W.heap.size + 3) (W.heap.size + 1) w4 F0 hM4 hnM) (fun _ _ => rfl) hfo hI; rw [hgf] at hEK; clear hfo
  have hrun := fk_run M (fr :: behind m fr) [] (by simp; omega)
  rw [List.nil_append, List.length_nil, Nat.sub_zero] at hrun
  have HE := Lib.hid (And.intro hEK (And.intro hrun (And.intro hFb (And.intro hbA4 hw4x)))); clear hEK hrun hFb hbA4 hw4x hI hnM hM4 hh4 hown4 hown3 hh34 hw3 hw4 hw2 hA0 hA1 e3 e4 HZ23 HZ34 hK4 hF0 hM1 hmk0
  go_enter Tryz.func175, Tryz.ntmps175
  go_wp2_with fail
  rw [← HE.out.2.2.2.2]
  (try go_wp2_with fail)
  refine HE.out.1.mono ?_
  rintro e' w5 ⟨F', ⟨lv, vs, bk, h1, h2, h3, h4, h5⟩, hchg, hsub, rfl⟩
  rw [HE.out.2.1] at h1 h3 h4
  have hc5 := cell_of_block h2 0
  simp at hc5
  have Hfin := Lib.hid (And.intro h3.out.f2 hchg); clear h3 hchg h1 h2 h4 hc4
  go_wp2_with fail
  go_ret
  exact ⟨_, rfl, Hfin.out.1, HE.out.2.2.2.1.trans (Hfin.out.2.to_below (fun i hi => by have := HE.out.2.2.1 i hi; omega) HE.out.2.2.2.1.size)⟩
set_option maxRecDepth 100000 in
theorem FirstKey_any (m : Mk) (hm : m.ok = true) (k : List Int) (rest : List (List Int)) (hK : keysOf m = k :: rest) (W : World) :
    Calls Tryz.prog 73 #[.agg #[.int .i64 m.c, .int .i64 m.d, .int .i64 m.s, .int .i64 m.e, .int .i64 m.l]] W fun e w' => ∃ v', e = .returned (.tuple #[v', .int .i64 0]) ∧ V1 (fun b => W.heap.size ≤ b) w' v' k ∧ Below W.heap.size W w' := by
  obtain ⟨W1, hW1, hB01, hz01, HZ01, hc01, hh01⟩ := box_facts W #[.int .i64 m.c, .int .i64 m.d, .int .i64 m.s, .int .i64 m.e, .int .i64 m.l] 25
  have hfk := firstKeys_nil m hm 1 (by omega)
  rw [hK] at hfk
  have Hm := Lib.hid (And.intro hm (And.intro hfk hB01)); clear hm hK hfk hh01
  go_enter Tryz.func73, Tryz.ntmps73
  go_wp2_with fail
  rw [← hW1]
  refine (isMaker_b m W1 true Hm.out.1).mono ?_
  rintro e' w2 ⟨rfl, hb2⟩
  have hx2 : ∀ o, w2.cell? ⟨W.heap.size, o, none⟩ = (#[.int .i64 m.c, .int .i64 m.d, .int .i64 m.s, .int .i64 m.e, .int .i64 m.l] : Array Value)[o]? := fun o => by rw [(bcell hb2).1 _ _ hz01, hc01]
  have Hb2 := Lib.hid hb2; clear hc01 hb2
  go_wp2_with fail
  refine (Hm.out.2.1 _).mono ?_
  rintro e' w3 ⟨lv, rfl, hF, hb3⟩
  have hF : F2 w2.heap.size w3 lv [k] := hF
  obtain ⟨la, lc, hle, _⟩ := hF.v2.form
  subst hle
  obtain ⟨b, off, a', c', rfl, _, hcc, hV⟩ := hF.v2.cell (k := 0) (by simp)
  simp only [Nat.add_zero] at hcc
  have hg : getl [k] 0 = k := rfl
  rw [hg] at hcc hV
  have hz2 := Hb2.out.size
  have HV := Lib.hid (And.intro (hV.mono (S' := fun b => W.heap.size ≤ b) (fun b hb _ => by have hb : w2.heap.size ≤ b := hb; omega) (fun _ _ _ => rfl)) (hB01.trans ((Hb2.out.trans (hb3.mono hz2)).mono (by omega)))); clear hF hV hb3 hx2
  go_wp2_with fail
  go_ret2
  exact ⟨_, rfl, HV.out.1, HV.out.2⟩
def nextCode : List (List Int) → Int
  | [] => 4
  | _ => 0
set_option maxRecDepth 100000 in
set_option maxHeartbeats 1000000 in
theorem NextKey_any {S : Nat → Prop} (m : Mk) (hm : m.ok = true) (kv : Value) (k : List Int) (done rest : List (List Int)) (hK : keysOf m = done ++ k :: rest) (W : World) (h : V1 S W kv k) :
    Calls Tryz.prog 75 #[.agg #[.int .i64 m.c, .int .i64 m.d, .int .i64 m.s, .int .i64 m.e, .int .i64 m.l], kv] W fun e w' => ∃ v', e = .returned (.tuple #[v', .int .i64 (nextCode rest)]) ∧ (∀ k2 r, rest = k2 :: r → V1 (fun b => W.heap.size ≤ b) w' v' k2) ∧ Below W.heap.size W w' := by
  obtain ⟨ka, kc, rfl, hkm⟩ := h.form
  have hmk := Mk.ok_iff.1 hm
  have hc0 : 0 ≤ m.c := by omega
  have hkey : isKeyB m k = true := (mem_keysOf hc0).1 (by rw [hK]; simp)
  have hki := isKey_iff.1 hkey
  have hbeh := keys_behind hc0 hK
  have hcut : (decide ((k.length : Int) = m.c) && allB k 0 (m.d - 1)) = true := by
    rw [decide_eq_true hki.1, Bool.true_and]
    unfold allB
    rw [List.all_eq_true]
    intro x hx
    exact inB_iff.2 (hki.2.1 x hx)
  obtain ⟨b0, o0, rfl, _, _⟩ := h.cell (k := 0) (by omega)
  have hne : ∀ x ∈ rest, x ≠ k := fun x hx => by
    rw [← hbeh] at hx
    exact behind_ne (show k.length = m.c.toNat by omega) 0 x hx
  obtain ⟨W1, hW1, hB01, hz01, HZ01, hc01, hh01⟩ := box_facts W #[.int .i64 m.c, .int .i64 m.d, .int .i64 m.s, .int .i64 m.e, .int .i64 m.l] 25
  have hfk := fun (w : World) (hw : V1 S w (.slice (some ⟨b0, o0, none⟩) k.length kc) k) => firstKeys_from m hm k hkey ⟨b0, o0, none⟩ kc 2 (by omega) w hw
  simp only [hbeh] at hfk
  obtain ⟨L, hL⟩ : ∃ L, (k :: rest).take 2 = L := ⟨_, rfl⟩
  simp only [hL] at hfk
  have hL1 : 1 ≤ L.length ∧ L.length ≤ 2 := by rw [← hL, List.length_take, List.length_cons]; omega
  have hL0 : getl L 0 = k := by rw [← hL]; rfl
  have hLn : L.length = 1 → rest = [] := fun e => by
    rw [← hL] at e
    cases rest with
    | nil => rfl
    | cons a b => simp at e
  have hL2 : 1 < L.length → ∃ k2 r, rest = k2 :: r ∧ getl L 1 = k2 ∧ k2 ≠ k := fun e => by
    cases rest with
    | nil => rw [← hL] at e; simp at e
    | cons a b => exact ⟨a, b, rfl, by rw [← hL]; rfl, hne a (List.mem_cons_self ..)⟩
  have Hm := Lib.hid (And.intro hm (And.intro hfk (And.intro hB01 (And.intro (h.below hB01) (And.intro hcut (And.intro hL0 (And.intro hLn hL2))))))); clear hm hK hfk hh01 h hmk hkey hki hbeh hcut hne hL hL0 hLn hL2
  go_enter Tryz.func75, Tryz.ntmps75
  go_wp2_with fail
  rw [← hW1]
  refine (isMaker_b m W1 true Hm.out.1).mono ?_
  rintro e' w2 ⟨rfl, hb2⟩
  have hx2 : ∀ o, w2.cell? ⟨W.heap.size, o, none⟩ = (#[.int .i64 m.c, .int .i64 m.d, .int .i64 m.s, .int .i64 m.e, .int .i64 m.l] : Array Value)[o]? := fun o => by rw [(bcell hb2).1 _ _ hz01, hc01]
  have hz2 := hb2.size
  have H2 := Lib.hid (And.intro (Hm.out.2.2.2.1.below hb2) (Hm.out.2.2.1.trans (hb2.mono (by omega)))); clear hc01 hb2
  go_wp2_with fail
  refine (areCuts_b m _ k _ true Hm.out.2.2.2.2.1 Hm.out.1 H2.out.1).mono ?_
  rintro e' w3 ⟨rfl, hb3⟩
  have hx3 : ∀ o, w3.cell? ⟨W.heap.size, o, none⟩ = (#[.int .i64 m.c, .int .i64 m.d, .int .i64 m.s, .int .i64 m.e, .int .i64 m.l] : Array Value)[o]? := fun o => by rw [(bcell hb3).1 _ _ (by omega), hx2]
  have hz3 := hb3.size
  have H3 := Lib.hid (And.intro (H2.out.1.below hb3) (H2.out.2.trans (hb3.mono (by omega)))); clear hx2 hb3
  go_wp2_with fail
  refine (Hm.out.2.1 _ H3.out.1).mono ?_
  rintro e' w4 ⟨lv, rfl, hF, hb4⟩
  have hz4 := hb4.size
  obtain ⟨la, lc, rfl, _⟩ := hF.v2.form
  have H4 := Lib.hid (And.intro hF.v2 (And.intro (H3.out.1.below hb4) (H3.out.2.trans (hb4.mono (by omega))))); clear hx3 hb4 hF
  have hLl : L.length ≤ 9223372036854775807 := by omega
  go_wp2_with fail
  go_loopw [7, 19] (fun _ iv wr => ∃ j : Nat, j ≤ 1 ∧ iv = .int .i64 (j : Int) ∧ Below w4.heap.size w4 wr) (fun _ iv _ => 2 - (intOf iv).toNat)
  case atStart => exact ⟨0, by omega, rfl, Below.refl _ _⟩
  case round =>
    obtain ⟨j, hj, rfl, hB⟩ := hrel
    have hzr := hB.size
    have HBB := Lib.hid hB
    have HB := Lib.hid (And.intro (H4.out.1.below hB) (And.intro (H4.out.2.1.below hB) (H4.out.2.2.trans (hB.mono (by omega))))); clear hB
    by_cases hjj : j < L.length
    · have hjd : decide (j < L.length) = true := decide_eq_true hjj
      have hjd2 : decide ((j : Int) < (L.length : Int)) = true := decide_eq_true (by omega)
      have hjn : ¬ L.length ≤ j := by omega
      obtain ⟨bq, oq, qa, qc, rfl, _, hcq, hrow⟩ := HB.out.1.cell hjj
      have hcases : j = 0 ∨ j = 1 := by omega
      rcases hcases with rfl | rfl
      · rw [Hm.out.2.2.2.2.2.1] at hcq hrow
        simp only [Nat.add_zero] at hcq
        have HR := Lib.hid hrow; clear hrow
        go_wp2_with fail
        refine (slEqual_b _ _ k k _ true (decide_eq_true rfl) HR.out HB.out.2.1).mono ?_
        rintro e' w5 ⟨rfl, n5, hw5⟩
        have hb5 : Below wr.heap.size wr w5 := by rw [hw5]; exact below_drewN (Below.refl _ _) n5
        have Hw := Lib.hid hb5; clear hw5 hb5 hcq
        go_wp2_with fail
        go_roundw
        case rel => exact ⟨1, by omega, by go_num, HBB.out.trans (Hw.out.mono (by omega))⟩
        case measure => simp [intOf]
      · obtain ⟨k2, r, hr, hg1, hn2⟩ := Hm.out.2.2.2.2.2.2.2 hjj
        rw [hg1] at hcq hrow
        have HR := Lib.hid (And.intro hrow (And.intro hr (show nextCode rest = 0 by rw [hr]; rfl))); clear hrow hr hg1
        go_wp2_with fail
        refine (slEqual_b _ _ k2 k _ false (decide_eq_false hn2) HR.out.1 HB.out.2.1).mono ?_
        rintro e' w5 ⟨rfl, n5, hw5⟩
        have hb5 : Below wr.heap.size wr w5 := by rw [hw5]; exact below_drewN (Below.refl _ _) n5
        have Hw := Lib.hid hb5; clear hw5 hb5 hcq
        go_wp2_with fail
        go_ret2
        refine ⟨.slice qa k2.length qc, by rw [HR.out.2.2]; rfl, fun k2' r' e => ?_, HB.out.2.2.trans (Hw.out.mono (by omega))⟩
        rw [HR.out.2.1] at e
        cases e
        exact (HR.out.1.below Hw.out).mono (fun b hb _ => by have hb : w3.heap.size ≤ b := hb; omega) (fun _ _ _ => rfl)
    · have hj1 : j = 1 := by omega
      subst hj1
      have hLe : L.length = 1 := by omega
      have hrn := Hm.out.2.2.2.2.2.2.1 hLe
      have hjd : decide (1 < L.length) = false := decide_eq_false hjj
      have hjd2 : decide (((1 : Nat) : Int) < (L.length : Int)) = false := decide_eq_false (by omega)
      have Hr := Lib.hid hrn; clear hrn hLe
      go_wp2_with fail
      go_ret2
      have hfin : ∀ v' k2 r, rest = k2 :: r → V1 (fun b => W.heap.size ≤ b) wr v' k2 := fun v' k2 r e => by rw [Hr.out] at e; cases e
      first | exact ⟨.slice none 0 0, by rw [Hr.out]; rfl, hfin _, HB.out.2.2⟩ | exact ⟨by rw [Hr.out]; rfl, hfin _, HB.out.2.2⟩
end Go.Proofs.YtmfgdoflddhngaaGreat
