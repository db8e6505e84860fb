/- The search for designs from a key on: what each visit does, and all of them. No conditions. -/
import Derived.Test.YtikdbjaimcciiaaGreatGoV
import Derived.Test.YtikdbjaimcciiaaGreatMEach6
import Derived.Test.YtikdbjaimcciiaaGreatMGoP
namespace Go.Proofs.YtikdbjaimcciiaaGreat
open Go.RowKit
set_option linter.unusedVariables false
set_option linter.unusedSimpArgs false

theorem skip_act {τ : Type} {act : τ → Prop} {fr : List Int} {f : GSt τ → List Int → GSt τ × Bool} {s : GSt τ} {k : List Int} (hf : (f s k).2 = true → act (f s k).1.2.2) (h : act s.2.2) (h2 : (skipS fr f s k).2 = true) : act (skipS fr f s k).1.2.2 := by
  unfold skipS at h2 ⊢
  split
  · exact h
  · rename_i hk
    rw [if_neg hk] at h2
    exact hf h2
theorem behind_key {m : Mk} {fr x : List Int} (hc : 0 ≤ m.c) (hk : isKeyB m fr = true) (hx : x ∈ behind m fr) : isKeyB m x = true := by
  obtain ⟨L1, L2, hL⟩ := List.append_of_mem ((mem_keysOf hc).2 hk)
  rw [keys_behind hc hL] at hx
  exact (mem_keysOf hc).1 (by rw [hL]; simp [hx])
theorem from_key {m : Mk} {fr x : List Int} (hc : 0 ≤ m.c) (hk : isKeyB m fr = true) (hx : x ∈ genF m (fun _ _ => true) fr true m.c.toNat []) : isKeyB m x = true := by
  rw [genF_from hc hk] at hx
  rcases List.mem_cons.1 hx with rfl | hx
  · exact hk
  · exact behind_key hc hk hx
theorem gvb_ok {τ : Type} {act : τ → Prop} {P : List (List Int) → Prop} {vf : FuncId} {vcaps : Array Value} {vis : τ → List (List Int) → τ × Bool} {VI : τ → (Nat → Prop) → World → Prop} (V : VisG act P vf vcaps vis VI)
    (m : Mk) (t : List (List Int)) (n : Nat) (hn : (n : Int) = m.c) (limit : Nat) (tv cv fv : Value) (XB MB FRB XPB STB CB LB RB CB2 SB d : Nat) (cuts : List (List Int)) (s0 : GSt τ) (F0 : Nat → Prop) (w0 : World)
    (hp : PartOk m t cuts) (hl : cuts.length < t.length) (hcd : cuts.length + (d + 1) = t.length) (hop : falseL n t cuts = []) (hact : act s0.2.2) (IH : GoAny act m t n tv limit fv XB VI vis d)
    (hM0 : MB < w0.heap.size) (hx : ∀ b, F0 b → b < w0.heap.size) (hXl : XB < w0.heap.size)
    (fr : List Int) (fad : Addr) (frc : Nat) (hfk : isKeyB m fr = true) (hfr : V1 (fun b => (¬ GF XB F0 b ∧ b ≠ MB) ∧ b < w0.heap.size) w0 (.slice (some fad) fr.length frc) fr) (h1 : w0.cell? ⟨FRB, 0, none⟩ = some (.slice (some fad) fr.length frc)) (f1 : ¬ GF XB F0 FRB ∧ FRB ≠ MB) (h2 : w0.cell? ⟨XPB, 0, none⟩ = some (.pointer (some ⟨XB, 0, none⟩))) (f2 : ¬ GF XB F0 XPB ∧ XPB ≠ MB)
    (h4 : w0.cell? ⟨STB, 0, none⟩ = some (.func (.func 225) #[] #[.pointer (some ⟨LB, 0, none⟩), .pointer (some ⟨RB, 0, none⟩), .pointer (some ⟨CB2, 0, none⟩), .pointer (some ⟨SB, 0, none⟩)])) (f4 : ¬ GF XB F0 STB ∧ STB ≠ MB)
    (h5 : w0.cell? ⟨CB, 0, none⟩ = some cv) (f5 : ¬ GF XB F0 CB ∧ CB ≠ MB) (hst : StayAt (fun b => (¬ GF XB F0 b ∧ b ≠ MB) ∧ b < w0.heap.size) m t cuts (locksTo n t cuts (getl t 0).length) LB RB CB2 SB w0)
    (ht : V2 (fun b => (¬ GF XB F0 b ∧ b ≠ MB) ∧ b < w0.heap.size) w0 tv t) (hc : V2 (fun b => (¬ GF XB F0 b ∧ b ≠ MB) ∧ b < w0.heap.size) w0 cv cuts) (hcp : cuts = [] → PV cv) :
    VisOk m.c.toNat w0 (fun b => GF XB F0 b ∨ b = MB) 190 #[.pointer (some ⟨FRB, 0, none⟩), .pointer (some ⟨XPB, 0, none⟩), .pointer (some ⟨MB, 0, none⟩), .pointer (some ⟨STB, 0, none⟩), .pointer (some ⟨CB, 0, none⟩)]
      (flag (skipS fr (goStep limit (stayP n t) (goF limit (stayP n t) vis (keysOf m) d) cuts))) (s0, true) (genF m (fun _ _ => true) fr true m.c.toNat []) (GvInv m tv limit fv XB MB VI) := by
  refine ⟨enters_go, ?_, ?_, ?_⟩
  · rintro s F w w' ⟨Fs, g1, g2, g3, g4⟩ hz hk
    exact ⟨Fs, g1.keep V hz (fun b hb => hk b ((g4 b).2 (.inl hb))), by rw [hk MB ((g4 MB).2 (.inr rfl))]; exact g2, g3, g4⟩
  · rintro s F w ⟨Fs, g1, g2, g3, g4⟩ b hb
    rcases (g4 b).1 hb with h | rfl
    · exact g1.glt h
    · exact lt_of_heap g2
  · rintro ⟨s, fl⟩ F S w v key done rest hL hr ⟨Fs, g1, g2, g3, g4⟩ hchg hsub hV hS hlen
    have hfl : fl = true := by
      rw [runL_flag] at hr
      have e1 := congrArg (fun x => x.1.2) hr
      have e2 := congrArg (fun x => x.2) hr
      exact e1.symm.trans e2
    subst hfl
    have hacs : act s.2.2 := by
      rw [runL_flag] at hr
      have e1 := congrArg (fun x => x.1.1) hr
      have e2 := congrArg (fun x => x.2) hr
      have h1 := runL_act (act := act) (f := skipS fr (goStep limit (stayP n t) (goF limit (stayP n t) vis (keysOf m) d) cuts)) (fun s k hs h3 => skip_act (fun h4 => goStep_act (vis := vis) (fun c s hs h5 => goF_act V.still hs h5) hs h4) hs h3) done s0 hact e2
      have e3 : (runL (skipS fr (goStep limit (stayP n t) (goF limit (stayP n t) vis (keysOf m) d) cuts)) s0 done).1 = s := e1
      rw [e3] at h1; exact h1
    have hkey : isKeyB m key = true := by
      have hc0 : 0 ≤ m.c := by omega
      exact from_key hc0 hfk (by rw [hL]; simp)
    have hfar : ∀ b, ((¬ GF XB F0 b ∧ b ≠ MB) ∧ b < w0.heap.size) → ¬ GF XB Fs b ∧ b ≠ MB ∧ b < w.heap.size := fun b hb => by
      refine ⟨fun h => ?_, hb.1.2, by have := hchg.size; omega⟩
      rcases hsub b ((g4 b).2 (.inl h)) with h1 | h1
      · rcases h1 with h1 | h1
        · exact hb.1.1 h1
        · exact hb.1.2 h1
      · omega
    have hkp : Keep (fun b => (¬ GF XB F0 b ∧ b ≠ MB) ∧ b < w0.heap.size) w0 w := hchg.keep fun b hb h => by
      rcases h with h | h
      · exact hb.1.1 h
      · exact hb.1.2 h
    have hnf : ∀ {b}, ¬ GF XB F0 b ∧ b ≠ MB → ¬ (GF XB F0 b ∨ b = MB) := fun h h' => by
      rcases h' with h' | h'
      · exact h.1 h'
      · exact h.2 h'
    by_cases hkf : key = fr
    · have hfl2 : flag (skipS fr (goStep limit (stayP n t) (goF limit (stayP n t) vis (keysOf m) d) cuts)) (s, true) key = ((s, true), true) := by unfold flag skipS; rw [if_pos hkf]
      rw [hfl2]
      refine (go1c_any (Far := fun b => (¬ GF XB F0 b ∧ b ≠ MB) ∧ b < w0.heap.size) V m limit tv v fv XB MB FRB XPB STB CB key s Fs w g1 g2 fr fad frc (cell_keep h1 (hchg.block _ (lt_of_cell h1) (hnf f1))) (hfr.mono (fun _ h _ => h) hkp) hkf hV).mono ?_
      rintro e w' ⟨F', rfl, h1, h2, h3, h4⟩
      have hMw := lt_of_heap g2
      refine ⟨fun b => GF XB F' b ∨ b = MB, rfl, ⟨F', h1, h2, fun h => ?_, fun b => Iff.rfl⟩, h3.mono (fun b hb => (g4 b).2 hb), fun b hb => ?_⟩
      · rcases h4 MB h with h | h
        · exact g3 h
        · omega
      · rcases hb with hb | hb
        · rcases h4 b hb with h | h
          · exact .inl ((g4 b).2 (.inl h))
          · exact .inr h
        · exact .inl ((g4 b).2 (.inr hb))
    · have hfl2 : flag (skipS fr (goStep limit (stayP n t) (goF limit (stayP n t) vis (keysOf m) d) cuts)) (s, true) key = (goStep limit (stayP n t) (goF limit (stayP n t) vis (keysOf m) d) cuts s key, (goStep limit (stayP n t) (goF limit (stayP n t) vis (keysOf m) d) cuts s key).2) := by unfold flag skipS; rw [if_neg hkf]
      rw [hfl2]
      refine (go1b_any (Far := fun b => (¬ GF XB F0 b ∧ b ≠ MB) ∧ b < w0.heap.size) V m t n hn limit tv cv v fv XB MB FRB XPB STB CB LB RB CB2 SB d cuts key s Fs w hp hl hcd hop hacs IH g1 g2 g3 hfar
        fr fad frc (cell_keep h1 (hchg.block _ (lt_of_cell h1) (hnf f1))) (hfr.mono (fun _ h _ => h) hkp) hkf ⟨f1, lt_of_cell h1⟩ (cell_keep h2 (hchg.block _ (lt_of_cell h2) (hnf f2))) ⟨f2, lt_of_cell h2⟩ (cell_keep h4 (hchg.block _ (lt_of_cell h4) (hnf f4))) ⟨f4, lt_of_cell h4⟩
        (cell_keep h5 (hchg.block _ (lt_of_cell h5) (hnf f5))) ⟨f5, lt_of_cell h5⟩ (hst.keep hchg.size hkp) (ht.mono (fun _ h _ => h) hkp) (hc.mono (fun _ h _ => h) hkp) hcp hV (fun b hb => ⟨fun h => hS b hb ((g4 b).2 (.inl h)), fun h => hS b hb ((g4 b).2 (.inr h))⟩) hkey).mono ?_
      rintro e w' ⟨F', rfl, h1, h2, h3, h4⟩
      have hMw := lt_of_heap g2
      refine ⟨fun b => GF XB F' b ∨ b = MB, rfl, ⟨F', h1, h2, fun h => ?_, fun b => Iff.rfl⟩, h3.mono (fun b hb => (g4 b).2 hb), fun b hb => ?_⟩
      · rcases h4 MB h with h | h
        · exact g3 h
        · omega
      · rcases hb with hb | hb
        · rcases h4 b hb with h | h
          · exact .inl ((g4 b).2 (.inl h))
          · exact .inr h
        · exact .inl ((g4 b).2 (.inr hb))
set_option maxRecDepth 100000 in
theorem go_eachb {τ : Type} {act : τ → Prop} {P : List (List Int) → Prop} {vf : FuncId} {vcaps : Array Value} {vis : τ → List (List Int) → τ × Bool} {VI : τ → (Nat → Prop) → World → Prop} (V : VisG act P vf vcaps vis VI)
    (m : Mk) (t : List (List Int)) (n : Nat) (hn : (n : Int) = m.c) (limit : Nat) (tv cv fv : Value) (XB LB RB CB2 SB MB ST d : Nat) (cuts : List (List Int)) (s : GSt τ) (F : Nat → Prop) (W WA w : World)
    (hG : Gs m tv limit fv XB VI s F W) (ht : V2 (fun b => ¬ GF XB F b) W tv t) (hc : V2 (fun b => ¬ GF XB F b) W cv cuts) (hcp : cuts = [] → PV cv) (hok : PartOk m t cuts) (hop : falseL n t cuts = []) (hact : act s.2.2) (hlt : cuts.length < t.length) (hcd : cuts.length + (d + 1) = t.length) (IH : GoAny act m t n tv limit fv XB VI vis d)
    (hbA : Below W.heap.size W WA) (hzA : WA.heap.size = W.heap.size + 3) (cA0 : WA.cell? ⟨W.heap.size, 0, none⟩ = some (.pointer (some ⟨XB, 0, none⟩))) (cA1 : WA.cell? ⟨W.heap.size + 1, 0, none⟩ = some cv) (fr : List Int) (fad : Addr) (frc : Nat) (hfk : isKeyB m fr = true) (hfr : V1 (fun b => ¬ GF XB F b) W (.slice (some fad) fr.length frc) fr) (cA2 : WA.cell? ⟨W.heap.size + 1 + 1, 0, none⟩ = some (.slice (some fad) fr.length frc))
    (M : GoMid m t cuts (locksTo n t cuts (getl t 0).length) XB F LB RB CB2 SB MB ST WA w) :
    Calls Tryz.prog 178 #[.agg #[.int .i64 m.c, .int .i64 m.d, .int .i64 m.s, .int .i64 m.e, .int .i64 m.l], .slice (some fad) fr.length frc, .nilFunc, .func (.func 190) #[] #[.pointer (some ⟨W.heap.size + 1 + 1, 0, none⟩), .pointer (some ⟨W.heap.size, 0, none⟩), .pointer (some ⟨MB, 0, none⟩), .pointer (some ⟨ST, 0, none⟩), .pointer (some ⟨W.heap.size + 1, 0, none⟩)]] w
      (fun e w' => e = .returned undef ∧ ∃ Fs, Gs m tv limit fv XB VI (runL (goStep limit (stayP n t) (goF limit (stayP n t) vis (keysOf m) d) cuts) s (behind m fr)).1 Fs w' ∧ w'.heap[MB]? = some (.cells #[.bool (runL (goStep limit (stayP n t) (goF limit (stayP n t) vis (keysOf m) d) cuts) s (behind m fr)).2] 4 (0, 0)) ∧
        Chg (fun b => GF XB F b ∨ b = MB) w w' ∧ ∀ b, GF XB Fs b → GF XB F b ∨ W.heap.size ≤ b) := by
  have hzw := M.below.size
  have hbW : Below W.heap.size W w := hbA.trans (M.below.mono (by omega))
  have hlo := M.lo
  have hMl := lt_of_heap M.hM
  have hno : ∀ b, W.heap.size ≤ b → ¬ GF XB F b := fun b hb h => by have := hG.glt h; omega
  have hdis : ∀ b, ¬ GF XB F b → b < W.heap.size → (¬ GF XB F b ∧ b ≠ MB) ∧ b < w.heap.size := fun b h h2 => ⟨⟨h, by omega⟩, by omega⟩
  have hk : Keep (fun b => ¬ GF XB F b) W w := fun b _ hlt => hbW.block b hlt
  have hV := gvb_ok V m t n hn limit tv cv fv XB MB (W.heap.size + 1 + 1) W.heap.size ST (W.heap.size + 1) LB RB CB2 SB d cuts s F w hok hlt hcd hop hact IH hMl (fun b hb => by have := hG.lt b hb; omega) (by have := lt_of_heap hG.hh; omega)
    fr fad frc hfk (hfr.mono (fun b h1 h2 => hdis b h1 h2) hk) (cell_keep cA2 (M.below.block _ (lt_of_cell cA2))) ⟨hno _ (by omega), by omega⟩ (cell_keep cA0 (M.below.block _ (lt_of_cell cA0))) ⟨hno _ (Nat.le_refl _), by omega⟩ (by rw [cell_of_block M.hT]; rfl) ⟨hno _ (by omega), hlo.2.2.symm⟩
    (cell_keep cA1 (M.below.block _ (lt_of_cell cA1))) ⟨hno _ (by omega), by omega⟩ M.st (ht.mono (fun b h1 h2 => hdis b h1 h2) hk) (hc.mono (fun b h1 h2 => hdis b h1 h2) hk) hcp
  have hI : GvInv m tv limit fv XB MB VI (s, true) (fun b => GF XB F b ∨ b = MB) w := ⟨F, hG.below V hbW, M.hM, hno _ (by omega), fun b => Iff.rfl⟩
  have hkk := isKey_iff.1 hfk
  have hfo : FrOk m w (fun b => GF XB F b ∨ b = MB) (.slice (some fad) fr.length frc) fr := by
    have hmo := Mk.ok_iff.1 hok.fits.ok
    refine ⟨hfr.mono (fun b h1 h2 => ⟨by omega, fun h => ?_⟩) hk, hkk.1, fun k hk => ?_⟩
    · rcases h with h | h
      · exact h1 h
      · omega
    · have := hkk.2.1 _ (geti_mem hk)
      omega
  have hek := eachKey_from (A := fun _ _ => true) hok.fits.ok w hV (fun _ _ => rfl) hfo hI
  rw [runL_flag, runL_from (by have := Mk.ok_iff.1 hok.fits.ok; omega) hfk] at hek
  refine hek.mono ?_
  rintro e w' ⟨F', ⟨Fs, g1, g2, g3, g4⟩, hch, hsub, rfl⟩
  refine ⟨rfl, Fs, g1, g2, hch, fun b hb => ?_⟩
  rcases hsub b ((g4 b).2 (.inl hb)) with h | h
  · rcases h with h | h
    · exact .inl h
    · right; omega
  · right; omega
end Go.Proofs.YtikdbjaimcciiaaGreat
