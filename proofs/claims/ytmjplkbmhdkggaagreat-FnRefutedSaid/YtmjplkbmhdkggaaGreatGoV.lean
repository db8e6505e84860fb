/- The program's search for designs: the search itself. No conditions. -/
import Derived.Test.YtmjplkbmhdkggaaGreatGoI
namespace Go.Proofs.YtmjplkbmhdkggaaGreat
open Go.RowKit
set_option linter.unusedVariables false
set_option linter.unusedSimpArgs false
def GvInv {τ : Type} (m : Mk) (tv : Value) (limit : Nat) (fv : Value) (XB MB : Nat) (VI : τ → (Nat → Prop) → World → Prop) (st : GSt τ × Bool) (F : Nat → Prop) (w : World) : Prop :=
 ∃ Fs, Gs m tv limit fv XB VI st.1 Fs w ∧ w.heap[MB]? = some (.cells #[.bool st.2] 4 (0, 0)) ∧ ¬ GF XB Fs MB ∧ ∀ b, F b ↔ (GF XB Fs b ∨ b = MB)
theorem enters_go : Enters 190 := fun args w => by kernel_rfl
theorem goStep_act {τ : Type} {act : τ → Prop} {vis : τ → List (List Int) → τ × Bool} {limit : Nat} {stay : List (List Int) → List Int → Bool} {rec : List (List Int) → GSt τ → GSt τ × Bool} (hr : ∀ c s, act s.2.2 → (rec c s).2 = true → act (rec c s).1.2.2) {cuts : List (List Int)} {s : GSt τ} {key : List Int} (h : act s.2.2)
  (h2 : (goStep limit stay rec cuts s key).2 = true) : act (goStep limit stay rec cuts s key).1.2.2 := by
 unfold goStep at h2 ⊢
 split
 ·exact h
 ·rename_i hne
  rw [if_neg hne] at h2
  split
  ·rename_i hs
   rw [if_pos hs] at h2
   exact hr _ _ h h2
  ·exact h
theorem runL_act {τ : Type} {act : τ → Prop} {f : GSt τ → List Int → GSt τ × Bool} (hf : ∀ s k, act s.2.2 → (f s k).2 = true → act (f s k).1.2.2) : ∀ (l : List (List Int)) (s : GSt τ), act s.2.2 → (runL f s l).2 = true → act (runL f s l).1.2.2
 | [], s, h, _ => h
 | k :: l, s, h, h2 => by
   unfold runL at h2 ⊢
   by_cases hk : (f s k).2 = true
   ·rw [if_pos hk] at h2 ⊢
    exact runL_act hf l _ (hf s k h hk) h2
   ·rw [if_neg hk] at h2
    simp at h2
theorem goF_act {τ : Type} {act : τ → Prop} {vis : τ → List (List Int) → τ × Bool} (still : ∀ s design, act s → (vis s design).2 = true → act (vis s design).1) {limit : Nat} {stay : List (List Int) → List Int → Bool} {keys : List (List Int)} : ∀ {d : Nat} {cuts : List (List Int)} {s : GSt τ}, act s.2.2 → (goF limit stay vis keys d cuts s).2 = true → act (goF limit stay vis keys d cuts s).1.2.2
 | 0, cuts, s, h, h2 => still _ _ h h2
 | d + 1, cuts, s, h, h2 => runL_act (fun s k hs h3 => goStep_act (vis := vis) (fun c s hs h4 => goF_act still hs h4) hs h3) keys s h h2
theorem go_act {τ : Type} {act : τ → Prop} {vis : τ → List (List Int) → τ × Bool} (still : ∀ s design, act s → (vis s design).2 = true → act (vis s design).1) {limit : Nat} {stay : List (List Int) → List Int → Bool} {keys : List (List Int)} {d : Nat} {cuts : List (List Int)} (l : List (List Int)) (s : GSt τ) (h : act s.2.2)
  (h2 : (runL (goStep limit stay (goF limit stay vis keys d) cuts) s l).2 = true) : act (runL (goStep limit stay (goF limit stay vis keys d) cuts) s l).1.2.2 :=
 runL_act (fun s k hs h3 => goStep_act (vis := vis) (fun c s hs h4 => goF_act still hs h4) hs h3) l s h h2
theorem gv_ok {τ : Type} {act : τ → Prop} {P : List (List Int) → Prop} {vf : FuncId} {vcaps : Array Value} {vis : τ → List (List Int) → τ × Bool} {VI : τ → (Nat → Prop) → World → Prop} (V : VisG act P vf vcaps vis VI)
  (m : Mk) (t : List (List Int)) (n : Nat) (hn : (n : Int) = m.c) (limit : Nat) (tv cv fv : Value) (XB MB FRB XPB STB CB LB RB CB2 SB d : Nat) (cuts : List (List Int)) (s0 : GSt τ) (F0 : Nat → Prop) (w0 : World)
  (hp : PartOk m t cuts) (hl : cuts.length < t.length) (hcd : cuts.length + (d + 1) = t.length) (hop : falseL n t cuts = []) (hact : act s0.2.2) (IH : GoAny act m t n tv limit fv XB VI vis d)
  (hM0 : MB < w0.heap.size) (hx : ∀ b, F0 b → b < w0.heap.size) (hXl : XB < w0.heap.size)
  (h1 : w0.cell? ⟨FRB, 0, none⟩ = some (.slice none 0 0)) (f1 : ¬ GF XB F0 FRB ∧ FRB ≠ MB) (h2 : w0.cell? ⟨XPB, 0, none⟩ = some (.pointer (some ⟨XB, 0, none⟩))) (f2 : ¬ GF XB F0 XPB ∧ XPB ≠ MB)
  (h4 : w0.cell? ⟨STB, 0, none⟩ = some (.func (.func 216) #[] #[.pointer (some ⟨LB, 0, none⟩), .pointer (some ⟨RB, 0, none⟩), .pointer (some ⟨CB2, 0, none⟩), .pointer (some ⟨SB, 0, none⟩)])) (f4 : ¬ GF XB F0 STB ∧ STB ≠ MB)
  (h5 : w0.cell? ⟨CB, 0, none⟩ = some cv) (f5 : ¬ GF XB F0 CB ∧ CB ≠ MB) (hst : StayAt (fun b => (¬ GF XB F0 b ∧ b ≠ MB) ∧ b < w0.heap.size) m t cuts (locksTo n t cuts (getl t 0).length) LB RB CB2 SB w0)
  (ht : V2 (fun b => (¬ GF XB F0 b ∧ b ≠ MB) ∧ b < w0.heap.size) w0 tv t) (hc : V2 (fun b => (¬ GF XB F0 b ∧ b ≠ MB) ∧ b < w0.heap.size) w0 cv cuts) (hcp : cuts = [] → PV cv) :
  VisOk m.c.toNat w0 (fun b => GF XB F0 b ∨ b = MB) 190 #[.pointer (some ⟨FRB, 0, none⟩), .pointer (some ⟨XPB, 0, none⟩), .pointer (some ⟨MB, 0, none⟩), .pointer (some ⟨STB, 0, none⟩), .pointer (some ⟨CB, 0, none⟩)]
   (flag (goStep limit (stayP n t) (goF limit (stayP n t) vis (keysOf m) d) cuts)) (s0, true) (genF m (fun _ _ => true) [] false m.c.toNat []) (GvInv m tv limit fv XB MB VI) := by
 refine ⟨enters_go, ?_, ?_, ?_⟩
 ·rintro s F w w' ⟨Fs, g1, g2, g3, g4⟩ hz hk
  exact ⟨Fs, g1.keep V hz (fun b hb => hk b ((g4 b).2 (.inl hb))), by rw [hk MB ((g4 MB).2 (.inr rfl))]; exact g2, g3, g4⟩
 ·rintro s F w ⟨Fs, g1, g2, g3, g4⟩ b hb
  rcases (g4 b).1 hb with h | rfl
  ·exact g1.glt h
  ·exact lt_of_heap g2
 ·rintro ⟨s, fl⟩ F S w v key done rest hL hr ⟨Fs, g1, g2, g3, g4⟩ hchg hsub hV hS hlen
  have hfl : fl = true := by
   rw [runL_flag] at hr
   have e1 := congrArg (fun x => x.1.2) hr
   have e2 := congrArg (fun x => x.2) hr
   exact e1.symm.trans e2
  subst hfl
  have hacs : act s.2.2 := by
   rw [runL_flag] at hr
   have e1 := congrArg (fun x => x.1.1) hr
   have e2 := congrArg (fun x => x.2) hr
   have h1 := go_act V.still done s0 hact e2
   have e3 : (runL (goStep limit (stayP n t) (goF limit (stayP n t) vis (keysOf m) d) cuts) s0 done).1 = s := e1
   rw [e3] at h1; exact h1
  have hkey : isKeyB m key = true := by
   have hc0 : 0 ≤ m.c := by omega
   refine (mem_keysOf hc0).1 ?_
   have hk : key ∈ genF m (fun _ _ => true) [] false m.c.toNat [] := by rw [hL]; simp
   rw [genF_free] at hk
   exact hk
  have hfar : ∀ b, ((¬ GF XB F0 b ∧ b ≠ MB) ∧ b < w0.heap.size) → ¬ GF XB Fs b ∧ b ≠ MB ∧ b < w.heap.size := fun b hb => by
   refine ⟨fun h => ?_, hb.1.2, by have := hchg.size; omega⟩
   rcases hsub b ((g4 b).2 (.inl h)) with h1 | h1
   ·rcases h1 with h1 | h1
    ·exact hb.1.1 h1
    ·exact hb.1.2 h1
   ·omega
  have hkp : Keep (fun b => (¬ GF XB F0 b ∧ b ≠ MB) ∧ b < w0.heap.size) w0 w := hchg.keep fun b hb h => by
   rcases h with h | h
   ·exact hb.1.1 h
   ·exact hb.1.2 h
  have hnf : ∀ {b}, ¬ GF XB F0 b ∧ b ≠ MB → ¬ (GF XB F0 b ∨ b = MB) := fun h h' => by
   rcases h' with h' | h'
   ·exact h.1 h'
   ·exact h.2 h'
  refine (go1_any (Far := fun b => (¬ GF XB F0 b ∧ b ≠ MB) ∧ b < w0.heap.size) V m t n hn limit tv cv v fv XB MB FRB XPB STB CB LB RB CB2 SB d cuts key s Fs w hp hl hcd hop hacs IH g1 g2 g3 hfar
   (cell_keep h1 (hchg.block _ (lt_of_cell h1) (hnf f1))) ⟨f1, lt_of_cell h1⟩ (cell_keep h2 (hchg.block _ (lt_of_cell h2) (hnf f2))) ⟨f2, lt_of_cell h2⟩ (cell_keep h4 (hchg.block _ (lt_of_cell h4) (hnf f4))) ⟨f4, lt_of_cell h4⟩
   (cell_keep h5 (hchg.block _ (lt_of_cell h5) (hnf f5))) ⟨f5, lt_of_cell h5⟩ (hst.keep hchg.size hkp) (ht.mono (fun _ h _ => h) hkp) (hc.mono (fun _ h _ => h) hkp) hcp hV (fun b hb => ⟨fun h => hS b hb ((g4 b).2 (.inl h)), fun h => hS b hb ((g4 b).2 (.inr h))⟩) hkey).mono ?_
  rintro e w' ⟨F', rfl, h1, h2, h3, h4⟩
  have hMw := lt_of_heap g2
  refine ⟨fun b => GF XB F' b ∨ b = MB, rfl, ⟨F', h1, h2, fun h => ?_, fun b => Iff.rfl⟩, h3.mono (fun b hb => (g4 b).2 hb), fun b hb => ?_⟩
  ·rcases h4 MB h with h | h
   ·exact g3 h
   ·omega
  ·rcases hb with hb | hb
   ·rcases h4 b hb with h | h
    ·exact .inl ((g4 b).2 (.inl h))
    ·exact .inr h
   ·exact .inl ((g4 b).2 (.inr hb))
theorem StayAt.move {S S' : Nat → Prop} {m : Mk} {t cuts : List (List Int)} {locks : List (List (List Int))} {LB RB CB SB : Nat} {w w' : World} (h : StayAt S m t cuts locks LB RB CB SB w) (hz : w.heap.size ≤ w'.heap.size) (hS : ∀ b, S b → b < w.heap.size → S' b ∧ w'.heap[b]? = w.heap[b]?) : StayAt S' m t cuts locks LB RB CB SB w' := by
 obtain ⟨lv, rv, cv, tv, h1, h2, h3, h4, h5, s1, s2, s3, s4, h6, h7, h8, h9⟩ := h
 have hk : Keep S w w' := fun b hb hlt => (hS b hb hlt).2
 refine ⟨lv, rv, cv, tv, cell_keep h1 (hk _ s1 (lt_of_cell h1)), cell_keep h2 (hk _ s2 (lt_of_cell h2)), cell_keep h3 (hk _ s3 (lt_of_cell h3)), fun o => ?_, by omega, (hS _ s1 (lt_of_cell h1)).1, (hS _ s2 (lt_of_cell h2)).1, (hS _ s3 (lt_of_cell h3)).1, (hS _ s4 h5).1, h6.mono (fun b h l => (hS b h l).1) hk, h7.mono (fun b h l => (hS b h l).1) hk, h8.mono (fun b h l => (hS b h l).1) hk, h9.mono (fun b h l => (hS b h l).1) hk⟩
 rw [← h4]
 exact World.cell?_of_block (w := w) (a := ⟨SB, o, none⟩) (hk _ s4 h5)
def stayV (LB RB CB2 SB : Nat) : Value := .func (.func 216) #[] #[.pointer (some ⟨LB, 0, none⟩), .pointer (some ⟨RB, 0, none⟩), .pointer (some ⟨CB2, 0, none⟩), .pointer (some ⟨SB, 0, none⟩)]
structure GoMid (m : Mk) (t cuts : List (List Int)) (locks : List (List (List Int))) (XB : Nat) (F : Nat → Prop) (LB RB CB2 SB MB ST : Nat) (WA w : World) : Prop where
 below : Below WA.heap.size WA w
 hM : w.heap[MB]? = some (.cells #[.bool true] 4 (0, 0))
 hT : w.heap[ST]? = some (.cells #[stayV LB RB CB2 SB] 99 (0, 0))
 lo : WA.heap.size ≤ MB ∧ WA.heap.size ≤ ST ∧ MB ≠ ST
 st : StayAt (fun b => (¬ GF XB F b ∧ b ≠ MB) ∧ b < w.heap.size) m t cuts locks LB RB CB2 SB w
theorem go_mid {S0 : Nat → Prop} {m : Mk} {t cuts : List (List Int)} {locks : List (List (List Int))} {XB : Nat} {F : Nat → Prop} {LB RB CB2 SB MB ST : Nat} {WA wl wx : World} (hst : StayAt S0 m t cuts locks LB RB CB2 SB wl)
  (hb : Below WA.heap.size WA wx) (hbl : Below wl.heap.size wl wx) (hlo : WA.heap.size ≤ MB ∧ WA.heap.size ≤ ST ∧ MB ≠ ST) (hM : wx.heap[MB]? = some (.cells #[.bool false] 4 (0, 0))) (hT : wx.heap[ST]? = some (.cells #[.nilFunc] 99 (0, 0)))
  (hS : ∀ b, S0 b → b < wl.heap.size → ¬ GF XB F b ∧ b ≠ MB ∧ b ≠ ST) :
  GoMid m t cuts locks XB F LB RB CB2 SB MB ST WA ((wx.setCell ⟨MB, 0, none⟩ (.bool true)).setCell ⟨ST, 0, none⟩ (stayV LB RB CB2 SB)).drew := by
 have hdr : ∀ u : World, u.drew.heap = u.heap := fun _ => rfl
 refine ⟨((hb.setCell hlo.1 _).setCell hlo.2.1 _).drew, ?_, ?_, hlo, hst.move (by simpa using hbl.size) (fun b h l => ⟨⟨⟨(hS b h l).1, (hS b h l).2.1⟩, by have := hbl.size; simp; omega⟩, ?_⟩)⟩
 ·rw [hdr, heap_setCell_other _ hlo.2.2, heap_setCell_self hM]; rfl
 ·rw [hdr, heap_setCell_self (by rw [heap_setCell_other _ hlo.2.2.symm]; exact hT)]; rfl
 ·rw [hdr, heap_setCell_other _ (hS b h l).2.2, heap_setCell_other _ (hS b h l).2.1]; exact hbl.block b l
set_option maxRecDepth 100000 in
theorem go_each {τ : Type} {act : τ → Prop} {P : List (List Int) → Prop} {vf : FuncId} {vcaps : Array Value} {vis : τ → List (List Int) → τ × Bool} {VI : τ → (Nat → Prop) → World → Prop} (V : VisG act P vf vcaps vis VI)
  (m : Mk) (t : List (List Int)) (n : Nat) (hn : (n : Int) = m.c) (limit : Nat) (tv cv fv : Value) (XB LB RB CB2 SB MB ST d : Nat) (cuts : List (List Int)) (s : GSt τ) (F : Nat → Prop) (W WA w : World)
  (hG : Gs m tv limit fv XB VI s F W) (ht : V2 (fun b => ¬ GF XB F b) W tv t) (hc : V2 (fun b => ¬ GF XB F b) W cv cuts) (hcp : cuts = [] → PV cv) (hok : PartOk m t cuts) (hop : falseL n t cuts = []) (hact : act s.2.2) (hlt : cuts.length < t.length) (hcd : cuts.length + (d + 1) = t.length) (IH : GoAny act m t n tv limit fv XB VI vis d)
  (hbA : Below W.heap.size W WA) (hzA : WA.heap.size = W.heap.size + 3) (cA0 : WA.cell? ⟨W.heap.size, 0, none⟩ = some (.pointer (some ⟨XB, 0, none⟩))) (cA1 : WA.cell? ⟨W.heap.size + 1, 0, none⟩ = some cv) (cA2 : WA.cell? ⟨W.heap.size + 1 + 1, 0, none⟩ = some (.slice none 0 0))
  (M : GoMid m t cuts (locksTo n t cuts (getl t 0).length) XB F LB RB CB2 SB MB ST WA w) :
  Calls Tryz.prog 94 #[.agg #[.int .i64 m.c, .int .i64 m.d, .int .i64 m.s, .int .i64 m.e, .int .i64 m.l], .slice none 0 0, .nilFunc, .func (.func 190) #[] #[.pointer (some ⟨W.heap.size + 1 + 1, 0, none⟩), .pointer (some ⟨W.heap.size, 0, none⟩), .pointer (some ⟨MB, 0, none⟩), .pointer (some ⟨ST, 0, none⟩), .pointer (some ⟨W.heap.size + 1, 0, none⟩)]] w
   (fun e w' => e = .returned undef ∧ ∃ Fs, Gs m tv limit fv XB VI (goF limit (stayP n t) vis (keysOf m) (d + 1) cuts s).1 Fs w' ∧ w'.heap[MB]? = some (.cells #[.bool (goF limit (stayP n t) vis (keysOf m) (d + 1) cuts s).2] 4 (0, 0)) ∧
    Chg (fun b => GF XB F b ∨ b = MB) w w' ∧ ∀ b, GF XB Fs b → GF XB F b ∨ W.heap.size ≤ b) := by
 have hzw := M.below.size
 have hbW : Below W.heap.size W w := hbA.trans (M.below.mono (by omega))
 have hlo := M.lo
 have hMl := lt_of_heap M.hM
 have hno : ∀ b, W.heap.size ≤ b → ¬ GF XB F b := fun b hb h => by have := hG.glt h; omega
 have hdis : ∀ b, ¬ GF XB F b → b < W.heap.size → (¬ GF XB F b ∧ b ≠ MB) ∧ b < w.heap.size := fun b h h2 => ⟨⟨h, by omega⟩, by omega⟩
 have hk : Keep (fun b => ¬ GF XB F b) W w := fun b _ hlt => hbW.block b hlt
 have hV := gv_ok V m t n hn limit tv cv fv XB MB (W.heap.size + 1 + 1) W.heap.size ST (W.heap.size + 1) LB RB CB2 SB d cuts s F w hok hlt hcd hop hact IH hMl (fun b hb => by have := hG.lt b hb; omega) (by have := lt_of_heap hG.hh; omega)
  (cell_keep cA2 (M.below.block _ (lt_of_cell cA2))) ⟨hno _ (by omega), by omega⟩ (cell_keep cA0 (M.below.block _ (lt_of_cell cA0))) ⟨hno _ (Nat.le_refl _), by omega⟩ (by rw [cell_of_block M.hT]; rfl) ⟨hno _ (by omega), hlo.2.2.symm⟩
  (cell_keep cA1 (M.below.block _ (lt_of_cell cA1))) ⟨hno _ (by omega), by omega⟩ M.st (ht.mono (fun b h1 h2 => hdis b h1 h2) hk) (hc.mono (fun b h1 h2 => hdis b h1 h2) hk) hcp
 have hI : GvInv m tv limit fv XB MB VI (s, true) (fun b => GF XB F b ∨ b = MB) w := ⟨F, hG.below V hbW, M.hM, hno _ (by omega), fun b => Iff.rfl⟩
 have hek := eachKey_any (A := fun _ _ => true) (av := .nilFunc) hok.fits.ok w hV (.inl ⟨rfl, fun _ _ => rfl⟩) hI
 rw [genF_free, runL_flag] at hek
 refine hek.mono ?_
 rintro e w' ⟨F', ⟨Fs, g1, g2, g3, g4⟩, hch, hsub, rfl⟩
 refine ⟨rfl, Fs, g1, g2, hch, fun b hb => ?_⟩
 rcases hsub b ((g4 b).2 (.inl hb)) with h | h
 ·rcases h with h | h
  ·exact .inl h
  ·right; omega
 ·right; omega
set_option maxRecDepth 100000 in
set_option maxHeartbeats 1000000 in
theorem go_any {τ : Type} {act : τ → Prop} {P : List (List Int) → Prop} {vf : FuncId} {vcaps : Array Value} {vis : τ → List (List Int) → τ × Bool} {VI : τ → (Nat → Prop) → World → Prop} (V : VisG act P vf vcaps vis VI)
  (m : Mk) (t : List (List Int)) (n : Nat) (hn : (n : Int) = m.c) (hPd : ∀ ds, PartOk m t ds → ds.length = t.length → falseL n t ds = [] → P ds) (limit : Nat) (tv : Value) (XB : Nat) : ∀ d, GoAny act m t n tv limit (.func (.func vf) #[] vcaps) XB VI vis d := by
 intro d
 induction d with
 | zero =>
   intro cuts cv s F W hcd ask
   obtain ⟨hG, ht, hc, hcp, hok, hop, hact⟩ := ask
   have hmk := hok.fits.ok
   obtain ⟨ta, tc, rfl, htm⟩ := ht.form
   obtain ⟨ca, cc, rfl, hcm⟩ := hc.form
   obtain ⟨WA, hWA⟩ : ∃ WA, WA = ((W.alloc (.cells #[.pointer (some ⟨XB, 0, none⟩)] 120)).alloc (.cells #[.slice ca cuts.length cc] 24)).alloc (.cells #[.slice none 0 0] 44) := ⟨_, rfl⟩
   have hbA : Below W.heap.size W WA := by rw [hWA]; exact by (repeat (first | (with_reducible refine Below.setCell ?_ ?_ _) | (with_reducible refine Below.alloc ?_ ?_ _) | (with_reducible refine Below.drew ?_) | (with_reducible refine below_drewN ?_ _) | (with_reducible exact Below.refl _ _) | (with_reducible assumption) | (with_reducible refine Below.trans ?_ (Below.mono (by with_reducible assumption) ?_)) | go_size))
   have hzA : WA.heap.size = W.heap.size + 3 := by rw [hWA]; simp
   have hA0 : WA.heap[W.heap.size]? = some (.cells #[.pointer (some ⟨XB, 0, none⟩)] 120 (0, 0)) := by rw [hWA]; simp only [heap_alloc_at, World.size_alloc]; (repeat rw [if_neg (by omega)]); simp
   have hA1 : WA.heap[W.heap.size + 1]? = some (.cells #[.slice ca cuts.length cc] 24 (0, 0)) := by rw [hWA]; simp only [heap_alloc_at, World.size_alloc]; simp
   have hA2 : WA.heap[W.heap.size + 1 + 1]? = some (.cells #[.slice none 0 0] 44 (0, 0)) := by rw [hWA]; simp only [heap_alloc_at, World.size_alloc]; simp
   have cA0 : WA.cell? ⟨W.heap.size, 0, none⟩ = some (.pointer (some ⟨XB, 0, none⟩)) := by rw [cell_of_block hA0]; rfl
   have cA1 : WA.cell? ⟨W.heap.size + 1, 0, none⟩ = some (.slice ca cuts.length cc) := by rw [cell_of_block hA1]; rfl
   have cA2 : WA.cell? ⟨W.heap.size + 1 + 1, 0, none⟩ = some (.slice none 0 0) := by rw [cell_of_block hA2]; rfl
   have hGA := hG.below V hbA
   have cX5 : WA.cell? ⟨XB, 5, none⟩ = some (.slice ta t.length tc) := by rw [hGA.cell]; rfl
   have cX9 : WA.cell? ⟨XB, 9, none⟩ = some (.func (.func vf) #[] vcaps) := by rw [hGA.cell]; rfl
   have e1 : ((cuts.length : Int) == (t.length : Int)) = true := by rw [beq_iff_eq]; omega
   have hVc := V.call s.2.2 F (fun b => ¬ GF XB F b) WA.drew.drew (.slice ca cuts.length cc) cuts (V.keep _ _ _ _ hGA.vi (Nat.le_refl _) (fun _ _ => rfl)) (hc.below (hbA.drew.drew)) (fun b hb h => hb (.inr h)) (hPd cuts hok (by omega) hop) hact
   have hen := V.enters
   unfold Enters at hen
   have H := Lib.hid (And.intro hVc (And.intro hG (And.intro hbA (And.intro hGA hWA)))); clear hVc hG ht hc hok hop hGA hA0 hA1 hA2 hbA
   go_enter Tryz.func162, Tryz.ntmps162
   go_wp2_with fail
   rw [← H.out.2.2.2.2]
   clear hWA
   go_region
   all_goals
    go_wp2_with fail
    have hS0 : WA.drew.drew.cell? ⟨W.heap.size, 0, none⟩ = some (.pointer (some ⟨XB, 0, none⟩)) ∧ WA.drew.drew.cell? ⟨W.heap.size + 1, 0, none⟩ = some (.slice ca cuts.length cc) ∧ WA.drew.drew.cell? ⟨XB, 9, none⟩ = some (.func (.func vf) #[] vcaps) := ⟨cA0, cA1, cX9⟩
    refine wp_region_noPanic ?_
    refine wp_region_held_drew (S := fun w' => w'.cell? ⟨W.heap.size, 0, none⟩ = some (.pointer (some ⟨XB, 0, none⟩)) ∧ w'.cell? ⟨W.heap.size + 1, 0, none⟩ = some (.slice ca cuts.length cc) ∧ w'.cell? ⟨XB, 9, none⟩ = some (.func (.func vf) #[] vcaps)) (by kernel_rfl) hS0 (fun hHeld => ?_)
    (refine wpAnyH_take (i := 0) (v := .pointer (some ⟨XB, 0, none⟩)) rfl (by kernel_rfl) (by kernel_rfl) (by kernel_rfl) (fun _ _ _ h => h) (Or.inl ⟨by kernel_rfl, fun w hSw => by (try dsimp only at hSw); go_split_ands; go_simp⟩) (by assumption) ?_; simp only [Act.put, List.setIfInBounds_toArray, List.set_cons_zero, List.set_cons_succ])
    (refine wpAnyH_take (i := 1) (v := .pointer (some ⟨XB, 0, none⟩)) rfl (by kernel_rfl) (by kernel_rfl) (by kernel_rfl) (fun _ _ _ h => h) (Or.inl ⟨by kernel_rfl, fun w hSw => by (try dsimp only at hSw); go_split_ands; go_simp⟩) (by assumption) ?_; simp only [Act.put, List.setIfInBounds_toArray, List.set_cons_zero, List.set_cons_succ])
    (refine wpAnyH_take (i := 2) (v := .pointer (some ⟨XB, 9, none⟩)) rfl (by kernel_rfl) (by kernel_rfl) (by kernel_rfl) (fun _ _ _ h => h) (Or.inl ⟨by kernel_rfl, fun w hSw => by (try dsimp only at hSw); go_split_ands; go_simp⟩) (by assumption) ?_; simp only [Act.put, List.setIfInBounds_toArray, List.set_cons_zero, List.set_cons_succ])
    (refine wpAnyH_take (i := 3) (v := .func (.func vf) #[] vcaps) rfl (by kernel_rfl) (by kernel_rfl) (by kernel_rfl) (fun _ _ _ h => h) (Or.inl ⟨by kernel_rfl, fun w hSw => by (try dsimp only at hSw); go_split_ands; go_simp⟩) (by assumption) ?_; simp only [Act.put, List.setIfInBounds_toArray, List.set_cons_zero, List.set_cons_succ])
    (refine wpAnyH_take (i := 4) (v := .slice ca cuts.length cc) rfl (by kernel_rfl) (by kernel_rfl) (by kernel_rfl) (fun _ _ _ h => h) (Or.inl ⟨by kernel_rfl, fun w hSw => by (try dsimp only at hSw); go_split_ands; go_simp⟩) (by assumption) ?_; simp only [Act.put, List.setIfInBounds_toArray, List.set_cons_zero, List.set_cons_succ])
    refine wpAnyH_ready (rs := [5]) (by kernel_rfl) (by simp) (AllReadyH.cons rfl (fun K hK => ?_) AllReadyH.nil)
    go_simp
    refine H.out.1.mono ?_
    rintro e' w' ⟨F', rfl, hI, hch, hsub⟩
    have hG0 := H.out.2.1
    have hbA := H.out.2.2.1
    have hzw := hch.size
    have hno : ∀ b, W.heap.size ≤ b → ¬ F b := fun b hb hf => by have := hG0.lt b hf; omega
    have hS1 := And.intro (cell_keep hS0.1 (hch.block _ (lt_of_cell hS0.1) (hno _ (Nat.le_refl _)))) (And.intro (cell_keep hS0.2.1 (hch.block _ (lt_of_cell hS0.2.1) (hno _ (by omega)))) (cell_keep hS0.2.2 (hch.block _ (lt_of_cell hS0.2.2) hG0.ne)))
    have hXl := lt_of_heap hG0.hh
    have hns : ∀ b, F' b → F b ∨ W.heap.size ≤ b := fun b hb => by
     rcases hsub b hb with h | h
     ·exact .inl h
     ·right
      simp only [World.size_drew] at h
      omega
    have hGp : GoPost m (.slice ta t.length tc) limit (.func (.func vf) #[] vcaps) XB VI F W (goF limit (stayP n t) vis (keysOf m) 0 cuts s) (.returned (.bool (vis s.2.2 cuts).2)) w' := by
     refine ⟨F', rfl, ⟨?_, hI, ?_, V.lt _ _ _ hI, hG0.le⟩, ?_, ?_⟩
     ·exact hch.heap (show WA.heap[XB]? = _ from (hbA.block XB hXl).trans hG0.hh) hG0.ne
     ·intro h
      rcases hns XB h with h | h
      ·exact hG0.ne h
      ·omega
     ·exact (Chg.of_below (hbA.drew.drew)).trans hch (fun i hi => .inl (.inr hi))
     ·rintro b (rfl | hb)
      ·exact .inl (.inl rfl)
      ·rcases hns b hb with h | h
       ·exact .inl (.inr h)
       ·exact .inr h
    have HG := Lib.hid hGp; clear hGp hI hch hsub hns
    dsimp only
    (refine hK.out _ _ hS1 (fun hHeld => ?_); clear hK K; (try simp only [Act.put, List.setIfInBounds_toArray, List.set_cons_zero, List.set_cons_succ]))
    (refine wpAnyH_ready (rs := [6]) (by kernel_rfl) (by simp) (AllReadyH.cons rfl (fun K hK => ?_) AllReadyH.nil); go_simp)
    (refine hK.out _ _ hS1 (fun hHeld => ?_); clear hK K; (try simp only [Act.put, List.setIfInBounds_toArray, List.set_cons_zero, List.set_cons_succ]))
    refine wpAnyH_done (by kernel_rfl) (NoPanic.normal ?_) _
    go_wp2_with fail
    go_ret
    exact HG.out
 | succ d ih =>
   intro cuts cv s F W hcd ask
   obtain ⟨hG, ht, hc, hcp, hok, hop, hact⟩ := ask
   have hmk := hok.fits.ok
   obtain ⟨ta, tc, rfl, htm⟩ := ht.form
   obtain ⟨ca, cc, rfl, hcm⟩ := hc.form
   obtain ⟨WA, hWA⟩ : ∃ WA, WA = ((W.alloc (.cells #[.pointer (some ⟨XB, 0, none⟩)] 120)).alloc (.cells #[.slice ca cuts.length cc] 24)).alloc (.cells #[.slice none 0 0] 44) := ⟨_, rfl⟩
   have hbA : Below W.heap.size W WA := by rw [hWA]; exact by (repeat (first | (with_reducible refine Below.setCell ?_ ?_ _) | (with_reducible refine Below.alloc ?_ ?_ _) | (with_reducible refine Below.drew ?_) | (with_reducible refine below_drewN ?_ _) | (with_reducible exact Below.refl _ _) | (with_reducible assumption) | (with_reducible refine Below.trans ?_ (Below.mono (by with_reducible assumption) ?_)) | go_size))
   have hzA : WA.heap.size = W.heap.size + 3 := by rw [hWA]; simp
   have hA0 : WA.heap[W.heap.size]? = some (.cells #[.pointer (some ⟨XB, 0, none⟩)] 120 (0, 0)) := by rw [hWA]; simp only [heap_alloc_at, World.size_alloc]; (repeat rw [if_neg (by omega)]); simp
   have hA1 : WA.heap[W.heap.size + 1]? = some (.cells #[.slice ca cuts.length cc] 24 (0, 0)) := by rw [hWA]; simp only [heap_alloc_at, World.size_alloc]; simp
   have hA2 : WA.heap[W.heap.size + 1 + 1]? = some (.cells #[.slice none 0 0] 44 (0, 0)) := by rw [hWA]; simp only [heap_alloc_at, World.size_alloc]; simp
   have cA0 : WA.cell? ⟨W.heap.size, 0, none⟩ = some (.pointer (some ⟨XB, 0, none⟩)) := by rw [cell_of_block hA0]; rfl
   have cA1 : WA.cell? ⟨W.heap.size + 1, 0, none⟩ = some (.slice ca cuts.length cc) := by rw [cell_of_block hA1]; rfl
   have cA2 : WA.cell? ⟨W.heap.size + 1 + 1, 0, none⟩ = some (.slice none 0 0) := by rw [cell_of_block hA2]; rfl
   have hGA := hG.below V hbA
   have cX5 : WA.cell? ⟨XB, 5, none⟩ = some (.slice ta t.length tc) := by rw [hGA.cell]; rfl
   have cX9 : WA.cell? ⟨XB, 9, none⟩ = some (.func (.func vf) #[] vcaps) := by rw [hGA.cell]; rfl
   have hlt : cuts.length < t.length := by omega
   have e1 : ((cuts.length : Int) == (t.length : Int)) = false := by rw [beq_eq_false_iff_ne]; omega
   have cS : ∀ o, WA.cell? ⟨XB, o, none⟩ = (goCells m (.slice ta t.length tc) limit s.1 s.2.1 (.func (.func vf) #[] vcaps))[o]? := fun o => hGA.cell o
   have cX0 : WA.cell? ⟨XB, 0, none⟩ = some (.int .i64 m.c) := by rw [cS]; rfl
   have cX1 : WA.cell? ⟨XB, 1, none⟩ = some (.int .i64 m.d) := by rw [cS]; rfl
   have cX2 : WA.cell? ⟨XB, 2, none⟩ = some (.int .i64 m.s) := by rw [cS]; rfl
   have cX3 : WA.cell? ⟨XB, 3, none⟩ = some (.int .i64 m.e) := by rw [cS]; rfl
   have cX4 : WA.cell? ⟨XB, 4, none⟩ = some (.int .i64 m.l) := by rw [cS]; rfl
   have htA := (ht.below hbA).mono (S' := fun b => ¬ GF XB F b ∧ b < WA.heap.size) (fun b h1 h2 => ⟨h1, h2⟩) (fun _ _ _ => rfl)
   have hcA := (hc.below hbA).mono (S' := fun b => ¬ GF XB F b ∧ b < WA.heap.size) (fun b h1 h2 => ⟨h1, h2⟩) (fun _ _ _ => rfl)
   have hso := fun w (hb : Below WA.heap.size WA w) => staysOpen_any m (.slice ta t.length tc) (.slice ca cuts.length cc) t cuts n w hok.fits hn hlt (htA.below hb) (hcA.below hb)
   have Hno := Lib.hid (show ∀ b, W.heap.size ≤ b → ¬ GF XB F b from fun b hb h => by have := hG.glt h; omega)
   have hek := fun (LB RB CB2 SB MB ST : Nat) (w : World) => go_each V m t n hn limit (.slice ta t.length tc) (.slice ca cuts.length cc) (.func (.func vf) #[] vcaps) XB LB RB CB2 SB MB ST d cuts s F W WA w hG ht hc hcp hok hop hact hlt hcd ih hbA hzA cA0 cA1 cA2
   have Hso := Lib.hid hso
   have hzA1 := Nat.le_of_eq hzA
   have hzA2 := Nat.le_of_eq hzA.symm
   have Hek := Lib.hid hek; clear hek
   have hSk : ∀ w', Below WA.heap.size WA w' → w'.cell? ⟨W.heap.size, 0, none⟩ = some (.pointer (some ⟨XB, 0, none⟩)) ∧ w'.cell? ⟨W.heap.size + 1, 0, none⟩ = some (.slice ca cuts.length cc) ∧ w'.cell? ⟨W.heap.size + 1 + 1, 0, none⟩ = some (.slice none 0 0) ∧ w'.cell? ⟨XB, 0, none⟩ = some (.int .i64 m.c) ∧ w'.cell? ⟨XB, 1, none⟩ = some (.int .i64 m.d) ∧ w'.cell? ⟨XB, 2, none⟩ = some (.int .i64 m.s) ∧ w'.cell? ⟨XB, 3, none⟩ = some (.int .i64 m.e) ∧ w'.cell? ⟨XB, 4, none⟩ = some (.int .i64 m.l) ∧ w'.cell? ⟨XB, 5, none⟩ = some (.slice ta t.length tc) := fun w' hb => by
    refine ⟨?_, ?_, ?_, ?_, ?_, ?_, ?_, ?_, ?_⟩
    ·exact cell_keep cA0 (hb.block _ (lt_of_cell cA0))
    ·exact cell_keep cA1 (hb.block _ (lt_of_cell cA1))
    ·exact cell_keep cA2 (hb.block _ (lt_of_cell cA2))
    ·exact cell_keep cX0 (hb.block _ (lt_of_cell cX0))
    ·exact cell_keep cX1 (hb.block _ (lt_of_cell cX1))
    ·exact cell_keep cX2 (hb.block _ (lt_of_cell cX2))
    ·exact cell_keep cX3 (hb.block _ (lt_of_cell cX3))
    ·exact cell_keep cX4 (hb.block _ (lt_of_cell cX4))
    ·exact cell_keep cX5 (hb.block _ (lt_of_cell cX5))
   have H := Lib.hid (And.intro hso (And.intro hG (And.intro hbA (And.intro hGA (And.intro hWA (And.intro hok (And.intro hop (And.intro ht (And.intro hc (And.intro hA0 (And.intro hA1 hA2))))))))))); clear hso hG ht hc hok hop hGA hA0 hA1 hA2 hbA cS htA hcA ih hzA
   go_enter Tryz.func162, Tryz.ntmps162
   go_wp2_with fail
   rw [← H.out.2.2.2.2.1]
   clear hWA
   go_region
   all_goals
    go_wp2_with fail
    have hbD : Below WA.heap.size WA WA.drew.drew := (Below.refl _ _).drew.drew
    have hS0 := hSk _ hbD
    refine wp_region_noPanic ?_
    refine wp_region_held_drew (S := fun w' => w'.cell? ⟨W.heap.size, 0, none⟩ = some (.pointer (some ⟨XB, 0, none⟩)) ∧ w'.cell? ⟨W.heap.size + 1, 0, none⟩ = some (.slice ca cuts.length cc) ∧ w'.cell? ⟨W.heap.size + 1 + 1, 0, none⟩ = some (.slice none 0 0) ∧ w'.cell? ⟨XB, 0, none⟩ = some (.int .i64 m.c) ∧ w'.cell? ⟨XB, 1, none⟩ = some (.int .i64 m.d) ∧ w'.cell? ⟨XB, 2, none⟩ = some (.int .i64 m.s) ∧ w'.cell? ⟨XB, 3, none⟩ = some (.int .i64 m.e) ∧ w'.cell? ⟨XB, 4, none⟩ = some (.int .i64 m.l) ∧ w'.cell? ⟨XB, 5, none⟩ = some (.slice ta t.length tc)) (by kernel_rfl) hS0 (fun hHeld => ?_)
    (refine wpAnyH_take (i := 0) (v := .pointer (some ⟨XB, 0, none⟩)) rfl (by kernel_rfl) (by kernel_rfl) (by kernel_rfl) (fun _ _ _ h => h) (Or.inl ⟨by kernel_rfl, fun w hSw => by (try dsimp only at hSw); go_split_ands; go_simp⟩) (by assumption) ?_; simp only [Act.put, List.setIfInBounds_toArray, List.set_cons_zero, List.set_cons_succ])
    (refine wpAnyH_take (i := 1) (v := .pointer (some ⟨XB, 0, none⟩)) rfl (by kernel_rfl) (by kernel_rfl) (by kernel_rfl) (fun _ _ _ h => h) (Or.inl ⟨by kernel_rfl, fun w hSw => by (try dsimp only at hSw); go_split_ands; go_simp⟩) (by assumption) ?_; simp only [Act.put, List.setIfInBounds_toArray, List.set_cons_zero, List.set_cons_succ])
    (refine wpAnyH_take (i := 2) (v := .pointer (some ⟨XB, 0, none⟩)) rfl (by kernel_rfl) (by kernel_rfl) (by kernel_rfl) (fun _ _ _ h => h) (Or.inl ⟨by kernel_rfl, fun w hSw => by (try dsimp only at hSw); go_split_ands; go_simp⟩) (by assumption) ?_; simp only [Act.put, List.setIfInBounds_toArray, List.set_cons_zero, List.set_cons_succ])
    (refine wpAnyH_take (i := 3) (v := .agg #[.int .i64 m.c, .int .i64 m.d, .int .i64 m.s, .int .i64 m.e, .int .i64 m.l, .slice ta t.length tc]) rfl (by kernel_rfl) (by kernel_rfl) (by kernel_rfl) (fun _ _ _ h => h) (Or.inl ⟨by kernel_rfl, fun w hSw => by (try dsimp only at hSw); go_split_ands; go_simp⟩) (by assumption) ?_; simp only [Act.put, List.setIfInBounds_toArray, List.set_cons_zero, List.set_cons_succ])
    (refine wpAnyH_take (i := 4) (v := .slice ca cuts.length cc) rfl (by kernel_rfl) (by kernel_rfl) (by kernel_rfl) (fun _ _ _ h => h) (Or.inl ⟨by kernel_rfl, fun w hSw => by (try dsimp only at hSw); go_split_ands; go_simp⟩) (by assumption) ?_; simp only [Act.put, List.setIfInBounds_toArray, List.set_cons_zero, List.set_cons_succ])
    refine wpAnyH_ready (rs := [5, 6, 7]) (by kernel_rfl) (by simp) (AllReadyH.cons rfl (fun K hK => ?_) (AllReadyH.cons rfl (fun K hK => ?_) (AllReadyH.cons rfl (fun K hK => ?_) AllReadyH.nil)))
    ·go_simp
     go_at_call 189
     refine (Hso.out _ hbD).mono ?_
     rintro e' wl ⟨LB, RB, CB2, SB, rfl, hLk, hbl⟩
     dsimp only
     have hbw : Below WA.heap.size WA wl := hbD.trans (hbl.mono hbD.size)
     have hzl := hbl.size
     (try simp only [World.size_drew, World.size_alloc] at hzl)
     have hSl := hSk _ hbw
     (refine hK.out _ _ hSl (fun hHeld => ?_); clear hK K; (try simp only [Act.put, List.setIfInBounds_toArray, List.set_cons_zero, List.set_cons_succ]))
     refine wpAnyH_ready (rs := [6, 7]) (by kernel_rfl) (by simp) (AllReadyH.cons rfl (fun K hK => ?_) (AllReadyH.cons rfl (fun K hK => ?_) AllReadyH.nil))
     ·go_simp
      have hbMB : Below WA.heap.size WA ((wl).alloc (.cells #[.bool false] 4)) := hbw.alloc hbw.size _
      have hMB : ((wl).alloc (.cells #[.bool false] 4)).heap[wl.heap.size]? = some (.cells #[.bool false] 4 (0, 0)) := by have h0 := heap_alloc_self (wl) (.cells #[.bool false] 4); simpa using h0
      have hSMB := hSk _ hbMB
      (refine hK.out _ _ hSMB (fun hHeld => ?_); clear hK K; (try simp only [Act.put, List.setIfInBounds_toArray, List.set_cons_zero, List.set_cons_succ]))
      refine wpAnyH_ready (rs := [7]) (by kernel_rfl) (by simp) (AllReadyH.cons rfl (fun K hK => ?_) AllReadyH.nil)
      go_simp
      have hbST : Below WA.heap.size WA (((wl).alloc (.cells #[.bool false] 4)).alloc (.cells #[.nilFunc] 99)) := hbMB.alloc hbMB.size _
      have hST : (((wl).alloc (.cells #[.bool false] 4)).alloc (.cells #[.nilFunc] 99)).heap[wl.heap.size + 1]? = some (.cells #[.nilFunc] 99 (0, 0)) := by have h0 := heap_alloc_self ((wl).alloc (.cells #[.bool false] 4)) (.cells #[.nilFunc] 99); simpa using h0
      have hMB : (((wl).alloc (.cells #[.bool false] 4)).alloc (.cells #[.nilFunc] 99)).heap[wl.heap.size]? = some (.cells #[.bool false] 4 (0, 0)) := (Below.heap_alloc _ _ _ (lt_of_heap hMB)).trans hMB
      have hSST := hSk _ hbST
      (refine hK.out _ _ hSST (fun hHeld => ?_); clear hK K; (try simp only [Act.put, List.setIfInBounds_toArray, List.set_cons_zero, List.set_cons_succ]))
      obtain ⟨wx, hwx⟩ : ∃ wx, ((wl).alloc (.cells #[.bool false] 4)).alloc (.cells #[.nilFunc] 99) = wx := ⟨_, rfl⟩
      have hBX := hbST
      rw [hwx] at hMB hST hBX ⊢
      have hbx : Below wl.heap.size wl wx := by rw [← hwx]; exact by (repeat (first | (with_reducible refine Below.setCell ?_ ?_ _) | (with_reducible refine Below.alloc ?_ ?_ _) | (with_reducible refine Below.drew ?_) | (with_reducible refine below_drewN ?_ _) | (with_reducible exact Below.refl _ _) | (with_reducible assumption) | (with_reducible refine Below.trans ?_ (Below.mono (by with_reducible assumption) ?_)) | go_size))
      have hMl := lt_of_heap hMB
      have hTl := lt_of_heap hST
      have hmid := go_mid (XB := XB) (F := F) hLk hBX hbx ⟨by omega, by omega, by omega⟩ hMB hST (fun b h l => by
       (try simp only [World.size_drew, World.size_alloc] at h)
       rcases h with h | h
       ·exact ⟨h.1.1, by omega, by omega⟩
       ·exact ⟨Hno.out b (by omega), by omega, by omega⟩)
      have cM := cell_of_block hMB 0
      have cT := cell_of_block hST 0
      simp only [List.getElem?_toArray, List.getElem?_cons_zero] at cM cT
      have fM := frozen_of_block hMB 0
      have fT := frozen_of_block hST 0
      have hne1 : ¬ wl.heap.size = wl.heap.size + 1 := by omega
      have hne2 : ¬ wl.heap.size + 1 = wl.heap.size := by omega
      have hT1 := hSk _ (hBX.setCell (p := ⟨wl.heap.size, 0, none⟩) (show WA.heap.size ≤ wl.heap.size by omega) (.bool true))
      have hT2 := hSk _ ((hBX.setCell (p := ⟨wl.heap.size, 0, none⟩) (show WA.heap.size ≤ wl.heap.size by omega) (.bool true)).setCell (p := ⟨wl.heap.size + 1, 0, none⟩) (show WA.heap.size ≤ wl.heap.size + 1 by omega) (stayV LB RB CB2 SB))
      have hlo := hmid.lo
      have Hmid := Lib.hid hmid; clear hmid hLk hBX hbx hMB hST
      (refine wpAnyH_ready (rs := [8]) (by kernel_rfl) (by simp) (AllReadyH.cons rfl (fun K hK => ?_) AllReadyH.nil); go_simp)
      (refine hK.out _ _ hT1 (fun hHeld => ?_); clear hK K; (try simp only [Act.put, List.setIfInBounds_toArray, List.set_cons_zero, List.set_cons_succ]))
      (refine wpAnyH_ready (rs := [9]) (by kernel_rfl) (by simp) (AllReadyH.cons rfl (fun K hK => ?_) AllReadyH.nil); go_simp)
      (refine hK.out _ _ hT2 (fun hHeld => ?_); clear hK K; (try simp only [Act.put, List.setIfInBounds_toArray, List.set_cons_zero, List.set_cons_succ]))
      refine wpAnyH_done (by kernel_rfl) (NoPanic.normal ?_) _
      clear hT1 hT2 cM cT fM fT
      go_wp2_with fail
      obtain ⟨wz, hwz⟩ : ∃ wz, (wx.setCell ⟨wl.heap.size, 0, none⟩ (.bool true)).setCell ⟨wl.heap.size + 1, 0, none⟩ (stayV LB RB CB2 SB) = wz := ⟨_, rfl⟩
      unfold stayV at hwz
      rw [hwz]
      have Hmid2 := Lib.hid (show GoMid m t cuts (locksTo n t cuts (getl t 0).length) XB F LB RB CB2 SB (wl.heap.size) (wl.heap.size + 1) WA wz.drew by rw [← hwz]; exact Hmid.out)
      clear hwz Hmid
      have hlo2 := Hmid2.out.lo
      have hSz := hSk wz.drew Hmid2.out.below
      refine wp_region_noPanic ?_
      refine wp_region_held_drew (S := fun w' => w'.cell? ⟨W.heap.size, 0, none⟩ = some (.pointer (some ⟨XB, 0, none⟩)) ∧ w'.cell? ⟨W.heap.size + 1, 0, none⟩ = some (.slice ca cuts.length cc) ∧ w'.cell? ⟨W.heap.size + 1 + 1, 0, none⟩ = some (.slice none 0 0) ∧ w'.cell? ⟨XB, 0, none⟩ = some (.int .i64 m.c) ∧ w'.cell? ⟨XB, 1, none⟩ = some (.int .i64 m.d) ∧ w'.cell? ⟨XB, 2, none⟩ = some (.int .i64 m.s) ∧ w'.cell? ⟨XB, 3, none⟩ = some (.int .i64 m.e) ∧ w'.cell? ⟨XB, 4, none⟩ = some (.int .i64 m.l) ∧ w'.cell? ⟨XB, 5, none⟩ = some (.slice ta t.length tc)) (by kernel_rfl) hSz (fun hHeld => ?_)
      (refine wpAnyH_take (i := 0) (v := .pointer (some ⟨XB, 0, none⟩)) rfl (by kernel_rfl) (by kernel_rfl) (by kernel_rfl) (fun _ _ _ h => h) (Or.inl ⟨by kernel_rfl, fun w hSw => by (try dsimp only at hSw); go_split_ands; go_simp⟩) (by assumption) ?_; simp only [Act.put, List.setIfInBounds_toArray, List.set_cons_zero, List.set_cons_succ])
      (refine wpAnyH_take (i := 1) (v := .pointer (some ⟨XB, 0, none⟩)) rfl (by kernel_rfl) (by kernel_rfl) (by kernel_rfl) (fun _ _ _ h => h) (Or.inl ⟨by kernel_rfl, fun w hSw => by (try dsimp only at hSw); go_split_ands; go_simp⟩) (by assumption) ?_; simp only [Act.put, List.setIfInBounds_toArray, List.set_cons_zero, List.set_cons_succ])
      (refine wpAnyH_take (i := 2) (v := .pointer (some ⟨XB, 0, none⟩)) rfl (by kernel_rfl) (by kernel_rfl) (by kernel_rfl) (fun _ _ _ h => h) (Or.inl ⟨by kernel_rfl, fun w hSw => by (try dsimp only at hSw); go_split_ands; go_simp⟩) (by assumption) ?_; simp only [Act.put, List.setIfInBounds_toArray, List.set_cons_zero, List.set_cons_succ])
      (refine wpAnyH_take (i := 3) (v := .pointer (some ⟨XB, 0, none⟩)) rfl (by kernel_rfl) (by kernel_rfl) (by kernel_rfl) (fun _ _ _ h => h) (Or.inl ⟨by kernel_rfl, fun w hSw => by (try dsimp only at hSw); go_split_ands; go_simp⟩) (by assumption) ?_; simp only [Act.put, List.setIfInBounds_toArray, List.set_cons_zero, List.set_cons_succ])
      (refine wpAnyH_take (i := 4) (v := .agg #[.int .i64 m.c, .int .i64 m.d, .int .i64 m.s, .int .i64 m.e, .int .i64 m.l]) rfl (by kernel_rfl) (by kernel_rfl) (by kernel_rfl) (fun _ _ _ h => h) (Or.inl ⟨by kernel_rfl, fun w hSw => by (try dsimp only at hSw); go_split_ands; go_simp⟩) (by assumption) ?_; simp only [Act.put, List.setIfInBounds_toArray, List.set_cons_zero, List.set_cons_succ])
      (refine wpAnyH_take (i := 5) (v := .slice none 0 0) rfl (by kernel_rfl) (by kernel_rfl) (by kernel_rfl) (fun _ _ _ h => h) (Or.inl ⟨by kernel_rfl, fun w hSw => by (try dsimp only at hSw); go_split_ands; go_simp⟩) (by assumption) ?_; simp only [Act.put, List.setIfInBounds_toArray, List.set_cons_zero, List.set_cons_succ])
      (refine wpAnyH_take (i := 6) (v := .func (.func 190) #[] #[.pointer (some ⟨W.heap.size + 1 + 1, 0, none⟩), .pointer (some ⟨W.heap.size, 0, none⟩), .pointer (some ⟨wl.heap.size, 0, none⟩), .pointer (some ⟨wl.heap.size + 1, 0, none⟩), .pointer (some ⟨W.heap.size + 1, 0, none⟩)]) rfl (by kernel_rfl) (by kernel_rfl) (by kernel_rfl) (fun _ _ _ h => h) (Or.inl ⟨by kernel_rfl, fun w hSw => by (try dsimp only at hSw); go_split_ands; go_simp⟩) (by assumption) ?_; simp only [Act.put, List.setIfInBounds_toArray, List.set_cons_zero, List.set_cons_succ])
      refine wpAnyH_ready (rs := [7]) (by kernel_rfl) (by simp) (AllReadyH.cons rfl (fun K hK => ?_) AllReadyH.nil)
      go_simp
      refine (Hek.out LB RB CB2 SB _ _ wz.drew Hmid2.out).mono ?_
      rintro e' w' ⟨rfl, Fs, g1, g2, hch, hsub⟩
      obtain ⟨r, hr⟩ : ∃ r, goF limit (stayP n t) vis (keysOf m) (d + 1) cuts s = r := ⟨_, rfl⟩
      rw [hr] at g1 g2 ⊢
      have cM2 : w'.cell? ⟨wl.heap.size, 0, none⟩ = some (.bool r.2) := by rw [cell_of_block g2]; rfl
      have hnf : ∀ b, W.heap.size ≤ b → b < WA.heap.size → ¬ (GF XB F b ∨ b = wl.heap.size) := fun b h1 h2 h => by
       rcases h with h | h
       ·exact Hno.out b h1 h
       ·omega
      have hS1 := And.intro (cell_keep hSz.1 (hch.block _ (lt_of_cell hSz.1) (hnf _ (Nat.le_refl _) (by omega)))) (And.intro (cell_keep hSz.2.1 (hch.block _ (lt_of_cell hSz.2.1) (hnf _ (by omega) (by omega)))) (And.intro (cell_keep hSz.2.2.1 (hch.block _ (lt_of_cell hSz.2.2.1) (hnf _ (by omega) (by omega))))
       (And.intro (show w'.cell? ⟨XB, 0, none⟩ = some (.int .i64 m.c) from by rw [g1.cell]; rfl) (And.intro (show w'.cell? ⟨XB, 1, none⟩ = some (.int .i64 m.d) from by rw [g1.cell]; rfl) (And.intro (show w'.cell? ⟨XB, 2, none⟩ = some (.int .i64 m.s) from by rw [g1.cell]; rfl) (And.intro (show w'.cell? ⟨XB, 3, none⟩ = some (.int .i64 m.e) from by rw [g1.cell]; rfl) (And.intro (show w'.cell? ⟨XB, 4, none⟩ = some (.int .i64 m.l) from by rw [g1.cell]; rfl) (show w'.cell? ⟨XB, 5, none⟩ = some (.slice ta t.length tc) from by rw [g1.cell]; rfl))))))))
      have hCW : Chg (GF XB F) W w' := (Chg.of_below (H.out.2.2.1.trans (Hmid2.out.below.mono (by omega)))).trans hch (fun i hi => by
       rcases hi with hi | hi
       ·exact .inl hi
       ·right; omega)
      have HF := Lib.hid (And.intro g1 (And.intro hCW (And.intro hsub hr))); clear g1 g2 hCW hsub hch hr
      dsimp only
      (refine hK.out _ _ hS1 (fun hHeld => ?_); clear hK K; (try simp only [Act.put, List.setIfInBounds_toArray, List.set_cons_zero, List.set_cons_succ]))
      refine wpAnyH_done (by kernel_rfl) (NoPanic.normal ?_) _
      go_wp2_with fail
      go_ret
      rw [HF.out.2.2.2]
      exact ⟨Fs, rfl, HF.out.1, HF.out.2.1, HF.out.2.2.1⟩
     ·go_simp
      have hbST : Below WA.heap.size WA ((wl).alloc (.cells #[.nilFunc] 99)) := hbw.alloc hbw.size _
      have hST : ((wl).alloc (.cells #[.nilFunc] 99)).heap[wl.heap.size]? = some (.cells #[.nilFunc] 99 (0, 0)) := by have h0 := heap_alloc_self (wl) (.cells #[.nilFunc] 99); simpa using h0
      have hSST := hSk _ hbST
      (refine hK.out _ _ hSST (fun hHeld => ?_); clear hK K; (try simp only [Act.put, List.setIfInBounds_toArray, List.set_cons_zero, List.set_cons_succ]))
      refine wpAnyH_ready (rs := [6]) (by kernel_rfl) (by simp) (AllReadyH.cons rfl (fun K hK => ?_) AllReadyH.nil)
      go_simp
      have hbMB : Below WA.heap.size WA (((wl).alloc (.cells #[.nilFunc] 99)).alloc (.cells #[.bool false] 4)) := hbST.alloc hbST.size _
      have hMB : (((wl).alloc (.cells #[.nilFunc] 99)).alloc (.cells #[.bool false] 4)).heap[wl.heap.size + 1]? = some (.cells #[.bool false] 4 (0, 0)) := by have h0 := heap_alloc_self ((wl).alloc (.cells #[.nilFunc] 99)) (.cells #[.bool false] 4); simpa using h0
      have hST : (((wl).alloc (.cells #[.nilFunc] 99)).alloc (.cells #[.bool false] 4)).heap[wl.heap.size]? = some (.cells #[.nilFunc] 99 (0, 0)) := (Below.heap_alloc _ _ _ (lt_of_heap hST)).trans hST
      have hSMB := hSk _ hbMB
      (refine hK.out _ _ hSMB (fun hHeld => ?_); clear hK K; (try simp only [Act.put, List.setIfInBounds_toArray, List.set_cons_zero, List.set_cons_succ]))
      obtain ⟨wx, hwx⟩ : ∃ wx, ((wl).alloc (.cells #[.nilFunc] 99)).alloc (.cells #[.bool false] 4) = wx := ⟨_, rfl⟩
      have hBX := hbMB
      rw [hwx] at hMB hST hBX ⊢
      have hbx : Below wl.heap.size wl wx := by rw [← hwx]; exact by (repeat (first | (with_reducible refine Below.setCell ?_ ?_ _) | (with_reducible refine Below.alloc ?_ ?_ _) | (with_reducible refine Below.drew ?_) | (with_reducible refine below_drewN ?_ _) | (with_reducible exact Below.refl _ _) | (with_reducible assumption) | (with_reducible refine Below.trans ?_ (Below.mono (by with_reducible assumption) ?_)) | go_size))
      have hMl := lt_of_heap hMB
      have hTl := lt_of_heap hST
      have hmid := go_mid (XB := XB) (F := F) hLk hBX hbx ⟨by omega, by omega, by omega⟩ hMB hST (fun b h l => by
       (try simp only [World.size_drew, World.size_alloc] at h)
       rcases h with h | h
       ·exact ⟨h.1.1, by omega, by omega⟩
       ·exact ⟨Hno.out b (by omega), by omega, by omega⟩)
      have cM := cell_of_block hMB 0
      have cT := cell_of_block hST 0
      simp only [List.getElem?_toArray, List.getElem?_cons_zero] at cM cT
      have fM := frozen_of_block hMB 0
      have fT := frozen_of_block hST 0
      have hne1 : ¬ wl.heap.size + 1 = wl.heap.size := by omega
      have hne2 : ¬ wl.heap.size = wl.heap.size + 1 := by omega
      have hT1 := hSk _ (hBX.setCell (p := ⟨wl.heap.size + 1, 0, none⟩) (show WA.heap.size ≤ wl.heap.size + 1 by omega) (.bool true))
      have hT2 := hSk _ ((hBX.setCell (p := ⟨wl.heap.size + 1, 0, none⟩) (show WA.heap.size ≤ wl.heap.size + 1 by omega) (.bool true)).setCell (p := ⟨wl.heap.size, 0, none⟩) (show WA.heap.size ≤ wl.heap.size by omega) (stayV LB RB CB2 SB))
      have hlo := hmid.lo
      have Hmid := Lib.hid hmid; clear hmid hLk hBX hbx hMB hST
      (refine wpAnyH_ready (rs := [8]) (by kernel_rfl) (by simp) (AllReadyH.cons rfl (fun K hK => ?_) AllReadyH.nil); go_simp)
      (refine hK.out _ _ hT1 (fun hHeld => ?_); clear hK K; (try simp only [Act.put, List.setIfInBounds_toArray, List.set_cons_zero, List.set_cons_succ]))
      (refine wpAnyH_ready (rs := [9]) (by kernel_rfl) (by simp) (AllReadyH.cons rfl (fun K hK => ?_) AllReadyH.nil); go_simp)
      (refine hK.out _ _ hT2 (fun hHeld => ?_); clear hK K; (try simp only [Act.put, List.setIfInBounds_toArray, List.set_cons_zero, List.set_cons_succ]))
      refine wpAnyH_done (by kernel_rfl) (NoPanic.normal ?_) _
      clear hT1 hT2 cM cT fM fT
      go_wp2_with fail
      obtain ⟨wz, hwz⟩ : ∃ wz, (wx.setCell ⟨wl.heap.size + 1, 0, none⟩ (.bool true)).setCell ⟨wl.heap.size, 0, none⟩ (stayV LB RB CB2 SB) = wz := ⟨_, rfl⟩
      unfold stayV at hwz
      rw [hwz]
      have Hmid2 := Lib.hid (show GoMid m t cuts (locksTo n t cuts (getl t 0).length) XB F LB RB CB2 SB (wl.heap.size + 1) (wl.heap.size) WA wz.drew by rw [← hwz]; exact Hmid.out)
      clear hwz Hmid
      have hlo2 := Hmid2.out.lo
      have hSz := hSk wz.drew Hmid2.out.below
      refine wp_region_noPanic ?_
      refine wp_region_held_drew (S := fun w' => w'.cell? ⟨W.heap.size, 0, none⟩ = some (.pointer (some ⟨XB, 0, none⟩)) ∧ w'.cell? ⟨W.heap.size + 1, 0, none⟩ = some (.slice ca cuts.length cc) ∧ w'.cell? ⟨W.heap.size + 1 + 1, 0, none⟩ = some (.slice none 0 0) ∧ w'.cell? ⟨XB, 0, none⟩ = some (.int .i64 m.c) ∧ w'.cell? ⟨XB, 1, none⟩ = some (.int .i64 m.d) ∧ w'.cell? ⟨XB, 2, none⟩ = some (.int .i64 m.s) ∧ w'.cell? ⟨XB, 3, none⟩ = some (.int .i64 m.e) ∧ w'.cell? ⟨XB, 4, none⟩ = some (.int .i64 m.l) ∧ w'.cell? ⟨XB, 5, none⟩ = some (.slice ta t.length tc)) (by kernel_rfl) hSz (fun hHeld => ?_)
      (refine wpAnyH_take (i := 0) (v := .pointer (some ⟨XB, 0, none⟩)) rfl (by kernel_rfl) (by kernel_rfl) (by kernel_rfl) (fun _ _ _ h => h) (Or.inl ⟨by kernel_rfl, fun w hSw => by (try dsimp only at hSw); go_split_ands; go_simp⟩) (by assumption) ?_; simp only [Act.put, List.setIfInBounds_toArray, List.set_cons_zero, List.set_cons_succ])
      (refine wpAnyH_take (i := 1) (v := .pointer (some ⟨XB, 0, none⟩)) rfl (by kernel_rfl) (by kernel_rfl) (by kernel_rfl) (fun _ _ _ h => h) (Or.inl ⟨by kernel_rfl, fun w hSw => by (try dsimp only at hSw); go_split_ands; go_simp⟩) (by assumption) ?_; simp only [Act.put, List.setIfInBounds_toArray, List.set_cons_zero, List.set_cons_succ])
      (refine wpAnyH_take (i := 2) (v := .pointer (some ⟨XB, 0, none⟩)) rfl (by kernel_rfl) (by kernel_rfl) (by kernel_rfl) (fun _ _ _ h => h) (Or.inl ⟨by kernel_rfl, fun w hSw => by (try dsimp only at hSw); go_split_ands; go_simp⟩) (by assumption) ?_; simp only [Act.put, List.setIfInBounds_toArray, List.set_cons_zero, List.set_cons_succ])
      (refine wpAnyH_take (i := 3) (v := .pointer (some ⟨XB, 0, none⟩)) rfl (by kernel_rfl) (by kernel_rfl) (by kernel_rfl) (fun _ _ _ h => h) (Or.inl ⟨by kernel_rfl, fun w hSw => by (try dsimp only at hSw); go_split_ands; go_simp⟩) (by assumption) ?_; simp only [Act.put, List.setIfInBounds_toArray, List.set_cons_zero, List.set_cons_succ])
      (refine wpAnyH_take (i := 4) (v := .agg #[.int .i64 m.c, .int .i64 m.d, .int .i64 m.s, .int .i64 m.e, .int .i64 m.l]) rfl (by kernel_rfl) (by kernel_rfl) (by kernel_rfl) (fun _ _ _ h => h) (Or.inl ⟨by kernel_rfl, fun w hSw => by (try dsimp only at hSw); go_split_ands; go_simp⟩) (by assumption) ?_; simp only [Act.put, List.setIfInBounds_toArray, List.set_cons_zero, List.set_cons_succ])
      (refine wpAnyH_take (i := 5) (v := .slice none 0 0) rfl (by kernel_rfl) (by kernel_rfl) (by kernel_rfl) (fun _ _ _ h => h) (Or.inl ⟨by kernel_rfl, fun w hSw => by (try dsimp only at hSw); go_split_ands; go_simp⟩) (by assumption) ?_; simp only [Act.put, List.setIfInBounds_toArray, List.set_cons_zero, List.set_cons_succ])
      (refine wpAnyH_take (i := 6) (v := .func (.func 190) #[] #[.pointer (some ⟨W.heap.size + 1 + 1, 0, none⟩), .pointer (some ⟨W.heap.size, 0, none⟩), .pointer (some ⟨wl.heap.size + 1, 0, none⟩), .pointer (some ⟨wl.heap.size, 0, none⟩), .pointer (some ⟨W.heap.size + 1, 0, none⟩)]) rfl (by kernel_rfl) (by kernel_rfl) (by kernel_rfl) (fun _ _ _ h => h) (Or.inl ⟨by kernel_rfl, fun w hSw => by (try dsimp only at hSw); go_split_ands; go_simp⟩) (by assumption) ?_; simp only [Act.put, List.setIfInBounds_toArray, List.set_cons_zero, List.set_cons_succ])
      refine wpAnyH_ready (rs := [7]) (by kernel_rfl) (by simp) (AllReadyH.cons rfl (fun K hK => ?_) AllReadyH.nil)
      go_simp
      refine (Hek.out LB RB CB2 SB _ _ wz.drew Hmid2.out).mono ?_
      rintro e' w' ⟨rfl, Fs, g1, g2, hch, hsub⟩
      obtain ⟨r, hr⟩ : ∃ r, goF limit (stayP n t) vis (keysOf m) (d + 1) cuts s = r := ⟨_, rfl⟩
      rw [hr] at g1 g2 ⊢
      have cM2 : w'.cell? ⟨wl.heap.size + 1, 0, none⟩ = some (.bool r.2) := by rw [cell_of_block g2]; rfl
      have hnf : ∀ b, W.heap.size ≤ b → b < WA.heap.size → ¬ (GF XB F b ∨ b = wl.heap.size + 1) := fun b h1 h2 h => by
       rcases h with h | h
       ·exact Hno.out b h1 h
       ·omega
      have hS1 := And.intro (cell_keep hSz.1 (hch.block _ (lt_of_cell hSz.1) (hnf _ (Nat.le_refl _) (by omega)))) (And.intro (cell_keep hSz.2.1 (hch.block _ (lt_of_cell hSz.2.1) (hnf _ (by omega) (by omega)))) (And.intro (cell_keep hSz.2.2.1 (hch.block _ (lt_of_cell hSz.2.2.1) (hnf _ (by omega) (by omega))))
       (And.intro (show w'.cell? ⟨XB, 0, none⟩ = some (.int .i64 m.c) from by rw [g1.cell]; rfl) (And.intro (show w'.cell? ⟨XB, 1, none⟩ = some (.int .i64 m.d) from by rw [g1.cell]; rfl) (And.intro (show w'.cell? ⟨XB, 2, none⟩ = some (.int .i64 m.s) from by rw [g1.cell]; rfl) (And.intro (show w'.cell? ⟨XB, 3, none⟩ = some (.int .i64 m.e) from by rw [g1.cell]; rfl) (And.intro (show w'.cell? ⟨XB, 4, none⟩ = some (.int .i64 m.l) from by rw [g1.cell]; rfl) (show w'.cell? ⟨XB, 5, none⟩ = some (.slice ta t.length tc) from by rw [g1.cell]; rfl))))))))
      have hCW : Chg (GF XB F) W w' := (Chg.of_below (H.out.2.2.1.trans (Hmid2.out.below.mono (by omega)))).trans hch (fun i hi => by
       rcases hi with hi | hi
       ·exact .inl hi
       ·right; omega)
      have HF := Lib.hid (And.intro g1 (And.intro hCW (And.intro hsub hr))); clear g1 g2 hCW hsub hch hr
      dsimp only
      (refine hK.out _ _ hS1 (fun hHeld => ?_); clear hK K; (try simp only [Act.put, List.setIfInBounds_toArray, List.set_cons_zero, List.set_cons_succ]))
      refine wpAnyH_done (by kernel_rfl) (NoPanic.normal ?_) _
      go_wp2_with fail
      go_ret
      rw [HF.out.2.2.2]
      exact ⟨Fs, rfl, HF.out.1, HF.out.2.1, HF.out.2.2.1⟩
    ·go_simp
     have hbMB : Below WA.heap.size WA ((WA.drew.drew).alloc (.cells #[.bool false] 4)) := hbD.alloc hbD.size _
     have hMB : ((WA.drew.drew).alloc (.cells #[.bool false] 4)).heap[WA.heap.size]? = some (.cells #[.bool false] 4 (0, 0)) := by have h0 := heap_alloc_self (WA.drew.drew) (.cells #[.bool false] 4); simpa using h0
     have hSMB := hSk _ hbMB
     (refine hK.out _ _ hSMB (fun hHeld => ?_); clear hK K; (try simp only [Act.put, List.setIfInBounds_toArray, List.set_cons_zero, List.set_cons_succ]))
     refine wpAnyH_ready (rs := [5, 7]) (by kernel_rfl) (by simp) (AllReadyH.cons rfl (fun K hK => ?_) (AllReadyH.cons rfl (fun K hK => ?_) AllReadyH.nil))
     ·go_simp
      go_at_call 189
      refine (Hso.out _ hbMB).mono ?_
      rintro e' wl ⟨LB, RB, CB2, SB, rfl, hLk, hbl⟩
      dsimp only
      have hbw : Below WA.heap.size WA wl := hbMB.trans (hbl.mono hbMB.size)
      have hzl := hbl.size
      (try simp only [World.size_drew, World.size_alloc] at hzl)
      have hSl := hSk _ hbw
      (refine hK.out _ _ hSl (fun hHeld => ?_); clear hK K; (try simp only [Act.put, List.setIfInBounds_toArray, List.set_cons_zero, List.set_cons_succ]))
      have hMB : wl.heap[WA.heap.size]? = some (.cells #[.bool false] 4 (0, 0)) := (hbl.block _ (lt_of_heap hMB)).trans hMB
      refine wpAnyH_ready (rs := [7]) (by kernel_rfl) (by simp) (AllReadyH.cons rfl (fun K hK => ?_) AllReadyH.nil)
      go_simp
      have hbST : Below WA.heap.size WA ((wl).alloc (.cells #[.nilFunc] 99)) := hbw.alloc hbw.size _
      have hST : ((wl).alloc (.cells #[.nilFunc] 99)).heap[wl.heap.size]? = some (.cells #[.nilFunc] 99 (0, 0)) := by have h0 := heap_alloc_self (wl) (.cells #[.nilFunc] 99); simpa using h0
      have hMB : ((wl).alloc (.cells #[.nilFunc] 99)).heap[WA.heap.size]? = some (.cells #[.bool false] 4 (0, 0)) := (Below.heap_alloc _ _ _ (lt_of_heap hMB)).trans hMB
      have hSST := hSk _ hbST
      (refine hK.out _ _ hSST (fun hHeld => ?_); clear hK K; (try simp only [Act.put, List.setIfInBounds_toArray, List.set_cons_zero, List.set_cons_succ]))
      obtain ⟨wx, hwx⟩ : ∃ wx, (wl).alloc (.cells #[.nilFunc] 99) = wx := ⟨_, rfl⟩
      have hBX := hbST
      rw [hwx] at hMB hST hBX ⊢
      have hbx : Below wl.heap.size wl wx := by rw [← hwx]; exact by (repeat (first | (with_reducible refine Below.setCell ?_ ?_ _) | (with_reducible refine Below.alloc ?_ ?_ _) | (with_reducible refine Below.drew ?_) | (with_reducible refine below_drewN ?_ _) | (with_reducible exact Below.refl _ _) | (with_reducible assumption) | (with_reducible refine Below.trans ?_ (Below.mono (by with_reducible assumption) ?_)) | go_size))
      have hMl := lt_of_heap hMB
      have hTl := lt_of_heap hST
      have hmid := go_mid (XB := XB) (F := F) hLk hBX hbx ⟨by omega, by omega, by omega⟩ hMB hST (fun b h l => by
       (try simp only [World.size_drew, World.size_alloc] at h)
       rcases h with h | h
       ·exact ⟨h.1.1, by omega, by omega⟩
       ·exact ⟨Hno.out b (by omega), by omega, by omega⟩)
      have cM := cell_of_block hMB 0
      have cT := cell_of_block hST 0
      simp only [List.getElem?_toArray, List.getElem?_cons_zero] at cM cT
      have fM := frozen_of_block hMB 0
      have fT := frozen_of_block hST 0
      have hne1 : ¬ WA.heap.size = wl.heap.size := by omega
      have hne2 : ¬ wl.heap.size = WA.heap.size := by omega
      have hT1 := hSk _ (hBX.setCell (p := ⟨WA.heap.size, 0, none⟩) (show WA.heap.size ≤ WA.heap.size by omega) (.bool true))
      have hT2 := hSk _ ((hBX.setCell (p := ⟨WA.heap.size, 0, none⟩) (show WA.heap.size ≤ WA.heap.size by omega) (.bool true)).setCell (p := ⟨wl.heap.size, 0, none⟩) (show WA.heap.size ≤ wl.heap.size by omega) (stayV LB RB CB2 SB))
      have hlo := hmid.lo
      have Hmid := Lib.hid hmid; clear hmid hLk hBX hbx hMB hST
      (refine wpAnyH_ready (rs := [8]) (by kernel_rfl) (by simp) (AllReadyH.cons rfl (fun K hK => ?_) AllReadyH.nil); go_simp)
      (refine hK.out _ _ hT1 (fun hHeld => ?_); clear hK K; (try simp only [Act.put, List.setIfInBounds_toArray, List.set_cons_zero, List.set_cons_succ]))
      (refine wpAnyH_ready (rs := [9]) (by kernel_rfl) (by simp) (AllReadyH.cons rfl (fun K hK => ?_) AllReadyH.nil); go_simp)
      (refine hK.out _ _ hT2 (fun hHeld => ?_); clear hK K; (try simp only [Act.put, List.setIfInBounds_toArray, List.set_cons_zero, List.set_cons_succ]))
      refine wpAnyH_done (by kernel_rfl) (NoPanic.normal ?_) _
      clear hT1 hT2 cM cT fM fT
      go_wp2_with fail
      obtain ⟨wz, hwz⟩ : ∃ wz, (wx.setCell ⟨WA.heap.size, 0, none⟩ (.bool true)).setCell ⟨wl.heap.size, 0, none⟩ (stayV LB RB CB2 SB) = wz := ⟨_, rfl⟩
      unfold stayV at hwz
      rw [hwz]
      have Hmid2 := Lib.hid (show GoMid m t cuts (locksTo n t cuts (getl t 0).length) XB F LB RB CB2 SB (WA.heap.size) (wl.heap.size) WA wz.drew by rw [← hwz]; exact Hmid.out)
      clear hwz Hmid
      have hlo2 := Hmid2.out.lo
      have hSz := hSk wz.drew Hmid2.out.below
      refine wp_region_noPanic ?_
      refine wp_region_held_drew (S := fun w' => w'.cell? ⟨W.heap.size, 0, none⟩ = some (.pointer (some ⟨XB, 0, none⟩)) ∧ w'.cell? ⟨W.heap.size + 1, 0, none⟩ = some (.slice ca cuts.length cc) ∧ w'.cell? ⟨W.heap.size + 1 + 1, 0, none⟩ = some (.slice none 0 0) ∧ w'.cell? ⟨XB, 0, none⟩ = some (.int .i64 m.c) ∧ w'.cell? ⟨XB, 1, none⟩ = some (.int .i64 m.d) ∧ w'.cell? ⟨XB, 2, none⟩ = some (.int .i64 m.s) ∧ w'.cell? ⟨XB, 3, none⟩ = some (.int .i64 m.e) ∧ w'.cell? ⟨XB, 4, none⟩ = some (.int .i64 m.l) ∧ w'.cell? ⟨XB, 5, none⟩ = some (.slice ta t.length tc)) (by kernel_rfl) hSz (fun hHeld => ?_)
      (refine wpAnyH_take (i := 0) (v := .pointer (some ⟨XB, 0, none⟩)) rfl (by kernel_rfl) (by kernel_rfl) (by kernel_rfl) (fun _ _ _ h => h) (Or.inl ⟨by kernel_rfl, fun w hSw => by (try dsimp only at hSw); go_split_ands; go_simp⟩) (by assumption) ?_; simp only [Act.put, List.setIfInBounds_toArray, List.set_cons_zero, List.set_cons_succ])
      (refine wpAnyH_take (i := 1) (v := .pointer (some ⟨XB, 0, none⟩)) rfl (by kernel_rfl) (by kernel_rfl) (by kernel_rfl) (fun _ _ _ h => h) (Or.inl ⟨by kernel_rfl, fun w hSw => by (try dsimp only at hSw); go_split_ands; go_simp⟩) (by assumption) ?_; simp only [Act.put, List.setIfInBounds_toArray, List.set_cons_zero, List.set_cons_succ])
      (refine wpAnyH_take (i := 2) (v := .pointer (some ⟨XB, 0, none⟩)) rfl (by kernel_rfl) (by kernel_rfl) (by kernel_rfl) (fun _ _ _ h => h) (Or.inl ⟨by kernel_rfl, fun w hSw => by (try dsimp only at hSw); go_split_ands; go_simp⟩) (by assumption) ?_; simp only [Act.put, List.setIfInBounds_toArray, List.set_cons_zero, List.set_cons_succ])
      (refine wpAnyH_take (i := 3) (v := .pointer (some ⟨XB, 0, none⟩)) rfl (by kernel_rfl) (by kernel_rfl) (by kernel_rfl) (fun _ _ _ h => h) (Or.inl ⟨by kernel_rfl, fun w hSw => by (try dsimp only at hSw); go_split_ands; go_simp⟩) (by assumption) ?_; simp only [Act.put, List.setIfInBounds_toArray, List.set_cons_zero, List.set_cons_succ])
      (refine wpAnyH_take (i := 4) (v := .agg #[.int .i64 m.c, .int .i64 m.d, .int .i64 m.s, .int .i64 m.e, .int .i64 m.l]) rfl (by kernel_rfl) (by kernel_rfl) (by kernel_rfl) (fun _ _ _ h => h) (Or.inl ⟨by kernel_rfl, fun w hSw => by (try dsimp only at hSw); go_split_ands; go_simp⟩) (by assumption) ?_; simp only [Act.put, List.setIfInBounds_toArray, List.set_cons_zero, List.set_cons_succ])
      (refine wpAnyH_take (i := 5) (v := .slice none 0 0) rfl (by kernel_rfl) (by kernel_rfl) (by kernel_rfl) (fun _ _ _ h => h) (Or.inl ⟨by kernel_rfl, fun w hSw => by (try dsimp only at hSw); go_split_ands; go_simp⟩) (by assumption) ?_; simp only [Act.put, List.setIfInBounds_toArray, List.set_cons_zero, List.set_cons_succ])
      (refine wpAnyH_take (i := 6) (v := .func (.func 190) #[] #[.pointer (some ⟨W.heap.size + 1 + 1, 0, none⟩), .pointer (some ⟨W.heap.size, 0, none⟩), .pointer (some ⟨WA.heap.size, 0, none⟩), .pointer (some ⟨wl.heap.size, 0, none⟩), .pointer (some ⟨W.heap.size + 1, 0, none⟩)]) rfl (by kernel_rfl) (by kernel_rfl) (by kernel_rfl) (fun _ _ _ h => h) (Or.inl ⟨by kernel_rfl, fun w hSw => by (try dsimp only at hSw); go_split_ands; go_simp⟩) (by assumption) ?_; simp only [Act.put, List.setIfInBounds_toArray, List.set_cons_zero, List.set_cons_succ])
      refine wpAnyH_ready (rs := [7]) (by kernel_rfl) (by simp) (AllReadyH.cons rfl (fun K hK => ?_) AllReadyH.nil)
      go_simp
      refine (Hek.out LB RB CB2 SB _ _ wz.drew Hmid2.out).mono ?_
      rintro e' w' ⟨rfl, Fs, g1, g2, hch, hsub⟩
      obtain ⟨r, hr⟩ : ∃ r, goF limit (stayP n t) vis (keysOf m) (d + 1) cuts s = r := ⟨_, rfl⟩
      rw [hr] at g1 g2 ⊢
      have cM2 : w'.cell? ⟨WA.heap.size, 0, none⟩ = some (.bool r.2) := by rw [cell_of_block g2]; rfl
      have hnf : ∀ b, W.heap.size ≤ b → b < WA.heap.size → ¬ (GF XB F b ∨ b = WA.heap.size) := fun b h1 h2 h => by
       rcases h with h | h
       ·exact Hno.out b h1 h
       ·omega
      have hS1 := And.intro (cell_keep hSz.1 (hch.block _ (lt_of_cell hSz.1) (hnf _ (Nat.le_refl _) (by omega)))) (And.intro (cell_keep hSz.2.1 (hch.block _ (lt_of_cell hSz.2.1) (hnf _ (by omega) (by omega)))) (And.intro (cell_keep hSz.2.2.1 (hch.block _ (lt_of_cell hSz.2.2.1) (hnf _ (by omega) (by omega))))
       (And.intro (show w'.cell? ⟨XB, 0, none⟩ = some (.int .i64 m.c) from by rw [g1.cell]; rfl) (And.intro (show w'.cell? ⟨XB, 1, none⟩ = some (.int .i64 m.d) from by rw [g1.cell]; rfl) (And.intro (show w'.cell? ⟨XB, 2, none⟩ = some (.int .i64 m.s) from by rw [g1.cell]; rfl) (And.intro (show w'.cell? ⟨XB, 3, none⟩ = some (.int .i64 m.e) from by rw [g1.cell]; rfl) (And.intro (show w'.cell? ⟨XB, 4, none⟩ = some (.int .i64 m.l) from by rw [g1.cell]; rfl) (show w'.cell? ⟨XB, 5, none⟩ = some (.slice ta t.length tc) from by rw [g1.cell]; rfl))))))))
      have hCW : Chg (GF XB F) W w' := (Chg.of_below (H.out.2.2.1.trans (Hmid2.out.below.mono (by omega)))).trans hch (fun i hi => by
       rcases hi with hi | hi
       ·exact .inl hi
       ·right; omega)
      have HF := Lib.hid (And.intro g1 (And.intro hCW (And.intro hsub hr))); clear g1 g2 hCW hsub hch hr
      dsimp only
      (refine hK.out _ _ hS1 (fun hHeld => ?_); clear hK K; (try simp only [Act.put, List.setIfInBounds_toArray, List.set_cons_zero, List.set_cons_succ]))
      refine wpAnyH_done (by kernel_rfl) (NoPanic.normal ?_) _
      go_wp2_with fail
      go_ret
      rw [HF.out.2.2.2]
      exact ⟨Fs, rfl, HF.out.1, HF.out.2.1, HF.out.2.2.1⟩
     ·go_simp
      have hbST : Below WA.heap.size WA (((WA.drew.drew).alloc (.cells #[.bool false] 4)).alloc (.cells #[.nilFunc] 99)) := hbMB.alloc hbMB.size _
      have hST : (((WA.drew.drew).alloc (.cells #[.bool false] 4)).alloc (.cells #[.nilFunc] 99)).heap[WA.heap.size + 1]? = some (.cells #[.nilFunc] 99 (0, 0)) := by have h0 := heap_alloc_self ((WA.drew.drew).alloc (.cells #[.bool false] 4)) (.cells #[.nilFunc] 99); simpa using h0
      have hMB : (((WA.drew.drew).alloc (.cells #[.bool false] 4)).alloc (.cells #[.nilFunc] 99)).heap[WA.heap.size]? = some (.cells #[.bool false] 4 (0, 0)) := (Below.heap_alloc _ _ _ (lt_of_heap hMB)).trans hMB
      have hSST := hSk _ hbST
      (refine hK.out _ _ hSST (fun hHeld => ?_); clear hK K; (try simp only [Act.put, List.setIfInBounds_toArray, List.set_cons_zero, List.set_cons_succ]))
      refine wpAnyH_ready (rs := [5]) (by kernel_rfl) (by simp) (AllReadyH.cons rfl (fun K hK => ?_) AllReadyH.nil)
      go_simp
      go_at_call 189
      refine (Hso.out _ hbST).mono ?_
      rintro e' wl ⟨LB, RB, CB2, SB, rfl, hLk, hbl⟩
      dsimp only
      have hbw : Below WA.heap.size WA wl := hbST.trans (hbl.mono hbST.size)
      have hzl := hbl.size
      (try simp only [World.size_drew, World.size_alloc] at hzl)
      have hSl := hSk _ hbw
      (refine hK.out _ _ hSl (fun hHeld => ?_); clear hK K; (try simp only [Act.put, List.setIfInBounds_toArray, List.set_cons_zero, List.set_cons_succ]))
      have hMB : wl.heap[WA.heap.size]? = some (.cells #[.bool false] 4 (0, 0)) := (hbl.block _ (lt_of_heap hMB)).trans hMB
      have hST : wl.heap[WA.heap.size + 1]? = some (.cells #[.nilFunc] 99 (0, 0)) := (hbl.block _ (lt_of_heap hST)).trans hST
      obtain ⟨wx, hwx⟩ : ∃ wx, wl = wx := ⟨_, rfl⟩
      have hBX := hbw
      rw [hwx] at hMB hST hBX ⊢
      have hbx : Below wl.heap.size wl wx := by rw [← hwx]; exact by (repeat (first | (with_reducible refine Below.setCell ?_ ?_ _) | (with_reducible refine Below.alloc ?_ ?_ _) | (with_reducible refine Below.drew ?_) | (with_reducible refine below_drewN ?_ _) | (with_reducible exact Below.refl _ _) | (with_reducible assumption) | (with_reducible refine Below.trans ?_ (Below.mono (by with_reducible assumption) ?_)) | go_size))
      have hMl := lt_of_heap hMB
      have hTl := lt_of_heap hST
      have hmid := go_mid (XB := XB) (F := F) hLk hBX hbx ⟨by omega, by omega, by omega⟩ hMB hST (fun b h l => by
       (try simp only [World.size_drew, World.size_alloc] at h)
       rcases h with h | h
       ·exact ⟨h.1.1, by omega, by omega⟩
       ·exact ⟨Hno.out b (by omega), by omega, by omega⟩)
      have cM := cell_of_block hMB 0
      have cT := cell_of_block hST 0
      simp only [List.getElem?_toArray, List.getElem?_cons_zero] at cM cT
      have fM := frozen_of_block hMB 0
      have fT := frozen_of_block hST 0
      have hne1 : ¬ WA.heap.size = WA.heap.size + 1 := by omega
      have hne2 : ¬ WA.heap.size + 1 = WA.heap.size := by omega
      have hT1 := hSk _ (hBX.setCell (p := ⟨WA.heap.size, 0, none⟩) (show WA.heap.size ≤ WA.heap.size by omega) (.bool true))
      have hT2 := hSk _ ((hBX.setCell (p := ⟨WA.heap.size, 0, none⟩) (show WA.heap.size ≤ WA.heap.size by omega) (.bool true)).setCell (p := ⟨WA.heap.size + 1, 0, none⟩) (show WA.heap.size ≤ WA.heap.size + 1 by omega) (stayV LB RB CB2 SB))
      have hlo := hmid.lo
      have Hmid := Lib.hid hmid; clear hmid hLk hBX hbx hMB hST
      (refine wpAnyH_ready (rs := [8]) (by kernel_rfl) (by simp) (AllReadyH.cons rfl (fun K hK => ?_) AllReadyH.nil); go_simp)
      (refine hK.out _ _ hT1 (fun hHeld => ?_); clear hK K; (try simp only [Act.put, List.setIfInBounds_toArray, List.set_cons_zero, List.set_cons_succ]))
      (refine wpAnyH_ready (rs := [9]) (by kernel_rfl) (by simp) (AllReadyH.cons rfl (fun K hK => ?_) AllReadyH.nil); go_simp)
      (refine hK.out _ _ hT2 (fun hHeld => ?_); clear hK K; (try simp only [Act.put, List.setIfInBounds_toArray, List.set_cons_zero, List.set_cons_succ]))
      refine wpAnyH_done (by kernel_rfl) (NoPanic.normal ?_) _
      clear hT1 hT2 cM cT fM fT
      go_wp2_with fail
      obtain ⟨wz, hwz⟩ : ∃ wz, (wx.setCell ⟨WA.heap.size, 0, none⟩ (.bool true)).setCell ⟨WA.heap.size + 1, 0, none⟩ (stayV LB RB CB2 SB) = wz := ⟨_, rfl⟩
      unfold stayV at hwz
      rw [hwz]
      have Hmid2 := Lib.hid (show GoMid m t cuts (locksTo n t cuts (getl t 0).length) XB F LB RB CB2 SB (WA.heap.size) (WA.heap.size + 1) WA wz.drew by rw [← hwz]; exact Hmid.out)
      clear hwz Hmid
      have hlo2 := Hmid2.out.lo
      have hSz := hSk wz.drew Hmid2.out.below
      refine wp_region_noPanic ?_
      refine wp_region_held_drew (S := fun w' => w'.cell? ⟨W.heap.size, 0, none⟩ = some (.pointer (some ⟨XB, 0, none⟩)) ∧ w'.cell? ⟨W.heap.size + 1, 0, none⟩ = some (.slice ca cuts.length cc) ∧ w'.cell? ⟨W.heap.size + 1 + 1, 0, none⟩ = some (.slice none 0 0) ∧ w'.cell? ⟨XB, 0, none⟩ = some (.int .i64 m.c) ∧ w'.cell? ⟨XB, 1, none⟩ = some (.int .i64 m.d) ∧ w'.cell? ⟨XB, 2, none⟩ = some (.int .i64 m.s) ∧ w'.cell? ⟨XB, 3, none⟩ = some (.int .i64 m.e) ∧ w'.cell? ⟨XB, 4, none⟩ = some (.int .i64 m.l) ∧ w'.cell? ⟨XB, 5, none⟩ = some (.slice ta t.length tc)) (by kernel_rfl) hSz (fun hHeld => ?_)
      (refine wpAnyH_take (i := 0) (v := .pointer (some ⟨XB, 0, none⟩)) rfl (by kernel_rfl) (by kernel_rfl) (by kernel_rfl) (fun _ _ _ h => h) (Or.inl ⟨by kernel_rfl, fun w hSw => by (try dsimp only at hSw); go_split_ands; go_simp⟩) (by assumption) ?_; simp only [Act.put, List.setIfInBounds_toArray, List.set_cons_zero, List.set_cons_succ])
      (refine wpAnyH_take (i := 1) (v := .pointer (some ⟨XB, 0, none⟩)) rfl (by kernel_rfl) (by kernel_rfl) (by kernel_rfl) (fun _ _ _ h => h) (Or.inl ⟨by kernel_rfl, fun w hSw => by (try dsimp only at hSw); go_split_ands; go_simp⟩) (by assumption) ?_; simp only [Act.put, List.setIfInBounds_toArray, List.set_cons_zero, List.set_cons_succ])
      (refine wpAnyH_take (i := 2) (v := .pointer (some ⟨XB, 0, none⟩)) rfl (by kernel_rfl) (by kernel_rfl) (by kernel_rfl) (fun _ _ _ h => h) (Or.inl ⟨by kernel_rfl, fun w hSw => by (try dsimp only at hSw); go_split_ands; go_simp⟩) (by assumption) ?_; simp only [Act.put, List.setIfInBounds_toArray, List.set_cons_zero, List.set_cons_succ])
      (refine wpAnyH_take (i := 3) (v := .pointer (some ⟨XB, 0, none⟩)) rfl (by kernel_rfl) (by kernel_rfl) (by kernel_rfl) (fun _ _ _ h => h) (Or.inl ⟨by kernel_rfl, fun w hSw => by (try dsimp only at hSw); go_split_ands; go_simp⟩) (by assumption) ?_; simp only [Act.put, List.setIfInBounds_toArray, List.set_cons_zero, List.set_cons_succ])
      (refine wpAnyH_take (i := 4) (v := .agg #[.int .i64 m.c, .int .i64 m.d, .int .i64 m.s, .int .i64 m.e, .int .i64 m.l]) rfl (by kernel_rfl) (by kernel_rfl) (by kernel_rfl) (fun _ _ _ h => h) (Or.inl ⟨by kernel_rfl, fun w hSw => by (try dsimp only at hSw); go_split_ands; go_simp⟩) (by assumption) ?_; simp only [Act.put, List.setIfInBounds_toArray, List.set_cons_zero, List.set_cons_succ])
      (refine wpAnyH_take (i := 5) (v := .slice none 0 0) rfl (by kernel_rfl) (by kernel_rfl) (by kernel_rfl) (fun _ _ _ h => h) (Or.inl ⟨by kernel_rfl, fun w hSw => by (try dsimp only at hSw); go_split_ands; go_simp⟩) (by assumption) ?_; simp only [Act.put, List.setIfInBounds_toArray, List.set_cons_zero, List.set_cons_succ])
      (refine wpAnyH_take (i := 6) (v := .func (.func 190) #[] #[.pointer (some ⟨W.heap.size + 1 + 1, 0, none⟩), .pointer (some ⟨W.heap.size, 0, none⟩), .pointer (some ⟨WA.heap.size, 0, none⟩), .pointer (some ⟨WA.heap.size + 1, 0, none⟩), .pointer (some ⟨W.heap.size + 1, 0, none⟩)]) rfl (by kernel_rfl) (by kernel_rfl) (by kernel_rfl) (fun _ _ _ h => h) (Or.inl ⟨by kernel_rfl, fun w hSw => by (try dsimp only at hSw); go_split_ands; go_simp⟩) (by assumption) ?_; simp only [Act.put, List.setIfInBounds_toArray, List.set_cons_zero, List.set_cons_succ])
      refine wpAnyH_ready (rs := [7]) (by kernel_rfl) (by simp) (AllReadyH.cons rfl (fun K hK => ?_) AllReadyH.nil)
      go_simp
      refine (Hek.out LB RB CB2 SB _ _ wz.drew Hmid2.out).mono ?_
      rintro e' w' ⟨rfl, Fs, g1, g2, hch, hsub⟩
      obtain ⟨r, hr⟩ : ∃ r, goF limit (stayP n t) vis (keysOf m) (d + 1) cuts s = r := ⟨_, rfl⟩
      rw [hr] at g1 g2 ⊢
      have cM2 : w'.cell? ⟨WA.heap.size, 0, none⟩ = some (.bool r.2) := by rw [cell_of_block g2]; rfl
      have hnf : ∀ b, W.heap.size ≤ b → b < WA.heap.size → ¬ (GF XB F b ∨ b = WA.heap.size) := fun b h1 h2 h => by
       rcases h with h | h
       ·exact Hno.out b h1 h
       ·omega
      have hS1 := And.intro (cell_keep hSz.1 (hch.block _ (lt_of_cell hSz.1) (hnf _ (Nat.le_refl _) (by omega)))) (And.intro (cell_keep hSz.2.1 (hch.block _ (lt_of_cell hSz.2.1) (hnf _ (by omega) (by omega)))) (And.intro (cell_keep hSz.2.2.1 (hch.block _ (lt_of_cell hSz.2.2.1) (hnf _ (by omega) (by omega))))
       (And.intro (show w'.cell? ⟨XB, 0, none⟩ = some (.int .i64 m.c) from by rw [g1.cell]; rfl) (And.intro (show w'.cell? ⟨XB, 1, none⟩ = some (.int .i64 m.d) from by rw [g1.cell]; rfl) (And.intro (show w'.cell? ⟨XB, 2, none⟩ = some (.int .i64 m.s) from by rw [g1.cell]; rfl) (And.intro (show w'.cell? ⟨XB, 3, none⟩ = some (.int .i64 m.e) from by rw [g1.cell]; rfl) (And.intro (show w'.cell? ⟨XB, 4, none⟩ = some (.int .i64 m.l) from by rw [g1.cell]; rfl) (show w'.cell? ⟨XB, 5, none⟩ = some (.slice ta t.length tc) from by rw [g1.cell]; rfl))))))))
      have hCW : Chg (GF XB F) W w' := (Chg.of_below (H.out.2.2.1.trans (Hmid2.out.below.mono (by omega)))).trans hch (fun i hi => by
       rcases hi with hi | hi
       ·exact .inl hi
       ·right; omega)
      have HF := Lib.hid (And.intro g1 (And.intro hCW (And.intro hsub hr))); clear g1 g2 hCW hsub hch hr
      dsimp only
      (refine hK.out _ _ hS1 (fun hHeld => ?_); clear hK K; (try simp only [Act.put, List.setIfInBounds_toArray, List.set_cons_zero, List.set_cons_succ]))
      refine wpAnyH_done (by kernel_rfl) (NoPanic.normal ?_) _
      go_wp2_with fail
      go_ret
      rw [HF.out.2.2.2]
      exact ⟨Fs, rfl, HF.out.1, HF.out.2.1, HF.out.2.2.1⟩
    ·go_simp
     have hbST : Below WA.heap.size WA ((WA.drew.drew).alloc (.cells #[.nilFunc] 99)) := hbD.alloc hbD.size _
     have hST : ((WA.drew.drew).alloc (.cells #[.nilFunc] 99)).heap[WA.heap.size]? = some (.cells #[.nilFunc] 99 (0, 0)) := by have h0 := heap_alloc_self (WA.drew.drew) (.cells #[.nilFunc] 99); simpa using h0
     have hSST := hSk _ hbST
     (refine hK.out _ _ hSST (fun hHeld => ?_); clear hK K; (try simp only [Act.put, List.setIfInBounds_toArray, List.set_cons_zero, List.set_cons_succ]))
     refine wpAnyH_ready (rs := [5, 6]) (by kernel_rfl) (by simp) (AllReadyH.cons rfl (fun K hK => ?_) (AllReadyH.cons rfl (fun K hK => ?_) AllReadyH.nil))
     ·go_simp
      go_at_call 189
      refine (Hso.out _ hbST).mono ?_
      rintro e' wl ⟨LB, RB, CB2, SB, rfl, hLk, hbl⟩
      dsimp only
      have hbw : Below WA.heap.size WA wl := hbST.trans (hbl.mono hbST.size)
      have hzl := hbl.size
      (try simp only [World.size_drew, World.size_alloc] at hzl)
      have hSl := hSk _ hbw
      (refine hK.out _ _ hSl (fun hHeld => ?_); clear hK K; (try simp only [Act.put, List.setIfInBounds_toArray, List.set_cons_zero, List.set_cons_succ]))
      have hST : wl.heap[WA.heap.size]? = some (.cells #[.nilFunc] 99 (0, 0)) := (hbl.block _ (lt_of_heap hST)).trans hST
      refine wpAnyH_ready (rs := [6]) (by kernel_rfl) (by simp) (AllReadyH.cons rfl (fun K hK => ?_) AllReadyH.nil)
      go_simp
      have hbMB : Below WA.heap.size WA ((wl).alloc (.cells #[.bool false] 4)) := hbw.alloc hbw.size _
      have hMB : ((wl).alloc (.cells #[.bool false] 4)).heap[wl.heap.size]? = some (.cells #[.bool false] 4 (0, 0)) := by have h0 := heap_alloc_self (wl) (.cells #[.bool false] 4); simpa using h0
      have hST : ((wl).alloc (.cells #[.bool false] 4)).heap[WA.heap.size]? = some (.cells #[.nilFunc] 99 (0, 0)) := (Below.heap_alloc _ _ _ (lt_of_heap hST)).trans hST
      have hSMB := hSk _ hbMB
      (refine hK.out _ _ hSMB (fun hHeld => ?_); clear hK K; (try simp only [Act.put, List.setIfInBounds_toArray, List.set_cons_zero, List.set_cons_succ]))
      obtain ⟨wx, hwx⟩ : ∃ wx, (wl).alloc (.cells #[.bool false] 4) = wx := ⟨_, rfl⟩
      have hBX := hbMB
      rw [hwx] at hMB hST hBX ⊢
      have hbx : Below wl.heap.size wl wx := by rw [← hwx]; exact by (repeat (first | (with_reducible refine Below.setCell ?_ ?_ _) | (with_reducible refine Below.alloc ?_ ?_ _) | (with_reducible refine Below.drew ?_) | (with_reducible refine below_drewN ?_ _) | (with_reducible exact Below.refl _ _) | (with_reducible assumption) | (with_reducible refine Below.trans ?_ (Below.mono (by with_reducible assumption) ?_)) | go_size))
      have hMl := lt_of_heap hMB
      have hTl := lt_of_heap hST
      have hmid := go_mid (XB := XB) (F := F) hLk hBX hbx ⟨by omega, by omega, by omega⟩ hMB hST (fun b h l => by
       (try simp only [World.size_drew, World.size_alloc] at h)
       rcases h with h | h
       ·exact ⟨h.1.1, by omega, by omega⟩
       ·exact ⟨Hno.out b (by omega), by omega, by omega⟩)
      have cM := cell_of_block hMB 0
      have cT := cell_of_block hST 0
      simp only [List.getElem?_toArray, List.getElem?_cons_zero] at cM cT
      have fM := frozen_of_block hMB 0
      have fT := frozen_of_block hST 0
      have hne1 : ¬ wl.heap.size = WA.heap.size := by omega
      have hne2 : ¬ WA.heap.size = wl.heap.size := by omega
      have hT1 := hSk _ (hBX.setCell (p := ⟨wl.heap.size, 0, none⟩) (show WA.heap.size ≤ wl.heap.size by omega) (.bool true))
      have hT2 := hSk _ ((hBX.setCell (p := ⟨wl.heap.size, 0, none⟩) (show WA.heap.size ≤ wl.heap.size by omega) (.bool true)).setCell (p := ⟨WA.heap.size, 0, none⟩) (show WA.heap.size ≤ WA.heap.size by omega) (stayV LB RB CB2 SB))
      have hlo := hmid.lo
      have Hmid := Lib.hid hmid; clear hmid hLk hBX hbx hMB hST
      (refine wpAnyH_ready (rs := [8]) (by kernel_rfl) (by simp) (AllReadyH.cons rfl (fun K hK => ?_) AllReadyH.nil); go_simp)
      (refine hK.out _ _ hT1 (fun hHeld => ?_); clear hK K; (try simp only [Act.put, List.setIfInBounds_toArray, List.set_cons_zero, List.set_cons_succ]))
      (refine wpAnyH_ready (rs := [9]) (by kernel_rfl) (by simp) (AllReadyH.cons rfl (fun K hK => ?_) AllReadyH.nil); go_simp)
      (refine hK.out _ _ hT2 (fun hHeld => ?_); clear hK K; (try simp only [Act.put, List.setIfInBounds_toArray, List.set_cons_zero, List.set_cons_succ]))
      refine wpAnyH_done (by kernel_rfl) (NoPanic.normal ?_) _
      clear hT1 hT2 cM cT fM fT
      go_wp2_with fail
      obtain ⟨wz, hwz⟩ : ∃ wz, (wx.setCell ⟨wl.heap.size, 0, none⟩ (.bool true)).setCell ⟨WA.heap.size, 0, none⟩ (stayV LB RB CB2 SB) = wz := ⟨_, rfl⟩
      unfold stayV at hwz
      rw [hwz]
      have Hmid2 := Lib.hid (show GoMid m t cuts (locksTo n t cuts (getl t 0).length) XB F LB RB CB2 SB (wl.heap.size) (WA.heap.size) WA wz.drew by rw [← hwz]; exact Hmid.out)
      clear hwz Hmid
      have hlo2 := Hmid2.out.lo
      have hSz := hSk wz.drew Hmid2.out.below
      refine wp_region_noPanic ?_
      refine wp_region_held_drew (S := fun w' => w'.cell? ⟨W.heap.size, 0, none⟩ = some (.pointer (some ⟨XB, 0, none⟩)) ∧ w'.cell? ⟨W.heap.size + 1, 0, none⟩ = some (.slice ca cuts.length cc) ∧ w'.cell? ⟨W.heap.size + 1 + 1, 0, none⟩ = some (.slice none 0 0) ∧ w'.cell? ⟨XB, 0, none⟩ = some (.int .i64 m.c) ∧ w'.cell? ⟨XB, 1, none⟩ = some (.int .i64 m.d) ∧ w'.cell? ⟨XB, 2, none⟩ = some (.int .i64 m.s) ∧ w'.cell? ⟨XB, 3, none⟩ = some (.int .i64 m.e) ∧ w'.cell? ⟨XB, 4, none⟩ = some (.int .i64 m.l) ∧ w'.cell? ⟨XB, 5, none⟩ = some (.slice ta t.length tc)) (by kernel_rfl) hSz (fun hHeld => ?_)
      (refine wpAnyH_take (i := 0) (v := .pointer (some ⟨XB, 0, none⟩)) rfl (by kernel_rfl) (by kernel_rfl) (by kernel_rfl) (fun _ _ _ h => h) (Or.inl ⟨by kernel_rfl, fun w hSw => by (try dsimp only at hSw); go_split_ands; go_simp⟩) (by assumption) ?_; simp only [Act.put, List.setIfInBounds_toArray, List.set_cons_zero, List.set_cons_succ])
      (refine wpAnyH_take (i := 1) (v := .pointer (some ⟨XB, 0, none⟩)) rfl (by kernel_rfl) (by kernel_rfl) (by kernel_rfl) (fun _ _ _ h => h) (Or.inl ⟨by kernel_rfl, fun w hSw => by (try dsimp only at hSw); go_split_ands; go_simp⟩) (by assumption) ?_; simp only [Act.put, List.setIfInBounds_toArray, List.set_cons_zero, List.set_cons_succ])
      (refine wpAnyH_take (i := 2) (v := .pointer (some ⟨XB, 0, none⟩)) rfl (by kernel_rfl) (by kernel_rfl) (by kernel_rfl) (fun _ _ _ h => h) (Or.inl ⟨by kernel_rfl, fun w hSw => by (try dsimp only at hSw); go_split_ands; go_simp⟩) (by assumption) ?_; simp only [Act.put, List.setIfInBounds_toArray, List.set_cons_zero, List.set_cons_succ])
      (refine wpAnyH_take (i := 3) (v := .pointer (some ⟨XB, 0, none⟩)) rfl (by kernel_rfl) (by kernel_rfl) (by kernel_rfl) (fun _ _ _ h => h) (Or.inl ⟨by kernel_rfl, fun w hSw => by (try dsimp only at hSw); go_split_ands; go_simp⟩) (by assumption) ?_; simp only [Act.put, List.setIfInBounds_toArray, List.set_cons_zero, List.set_cons_succ])
      (refine wpAnyH_take (i := 4) (v := .agg #[.int .i64 m.c, .int .i64 m.d, .int .i64 m.s, .int .i64 m.e, .int .i64 m.l]) rfl (by kernel_rfl) (by kernel_rfl) (by kernel_rfl) (fun _ _ _ h => h) (Or.inl ⟨by kernel_rfl, fun w hSw => by (try dsimp only at hSw); go_split_ands; go_simp⟩) (by assumption) ?_; simp only [Act.put, List.setIfInBounds_toArray, List.set_cons_zero, List.set_cons_succ])
      (refine wpAnyH_take (i := 5) (v := .slice none 0 0) rfl (by kernel_rfl) (by kernel_rfl) (by kernel_rfl) (fun _ _ _ h => h) (Or.inl ⟨by kernel_rfl, fun w hSw => by (try dsimp only at hSw); go_split_ands; go_simp⟩) (by assumption) ?_; simp only [Act.put, List.setIfInBounds_toArray, List.set_cons_zero, List.set_cons_succ])
      (refine wpAnyH_take (i := 6) (v := .func (.func 190) #[] #[.pointer (some ⟨W.heap.size + 1 + 1, 0, none⟩), .pointer (some ⟨W.heap.size, 0, none⟩), .pointer (some ⟨wl.heap.size, 0, none⟩), .pointer (some ⟨WA.heap.size, 0, none⟩), .pointer (some ⟨W.heap.size + 1, 0, none⟩)]) rfl (by kernel_rfl) (by kernel_rfl) (by kernel_rfl) (fun _ _ _ h => h) (Or.inl ⟨by kernel_rfl, fun w hSw => by (try dsimp only at hSw); go_split_ands; go_simp⟩) (by assumption) ?_; simp only [Act.put, List.setIfInBounds_toArray, List.set_cons_zero, List.set_cons_succ])
      refine wpAnyH_ready (rs := [7]) (by kernel_rfl) (by simp) (AllReadyH.cons rfl (fun K hK => ?_) AllReadyH.nil)
      go_simp
      refine (Hek.out LB RB CB2 SB _ _ wz.drew Hmid2.out).mono ?_
      rintro e' w' ⟨rfl, Fs, g1, g2, hch, hsub⟩
      obtain ⟨r, hr⟩ : ∃ r, goF limit (stayP n t) vis (keysOf m) (d + 1) cuts s = r := ⟨_, rfl⟩
      rw [hr] at g1 g2 ⊢
      have cM2 : w'.cell? ⟨wl.heap.size, 0, none⟩ = some (.bool r.2) := by rw [cell_of_block g2]; rfl
      have hnf : ∀ b, W.heap.size ≤ b → b < WA.heap.size → ¬ (GF XB F b ∨ b = wl.heap.size) := fun b h1 h2 h => by
       rcases h with h | h
       ·exact Hno.out b h1 h
       ·omega
      have hS1 := And.intro (cell_keep hSz.1 (hch.block _ (lt_of_cell hSz.1) (hnf _ (Nat.le_refl _) (by omega)))) (And.intro (cell_keep hSz.2.1 (hch.block _ (lt_of_cell hSz.2.1) (hnf _ (by omega) (by omega)))) (And.intro (cell_keep hSz.2.2.1 (hch.block _ (lt_of_cell hSz.2.2.1) (hnf _ (by omega) (by omega))))
       (And.intro (show w'.cell? ⟨XB, 0, none⟩ = some (.int .i64 m.c) from by rw [g1.cell]; rfl) (And.intro (show w'.cell? ⟨XB, 1, none⟩ = some (.int .i64 m.d) from by rw [g1.cell]; rfl) (And.intro (show w'.cell? ⟨XB, 2, none⟩ = some (.int .i64 m.s) from by rw [g1.cell]; rfl) (And.intro (show w'.cell? ⟨XB, 3, none⟩ = some (.int .i64 m.e) from by rw [g1.cell]; rfl) (And.intro (show w'.cell? ⟨XB, 4, none⟩ = some (.int .i64 m.l) from by rw [g1.cell]; rfl) (show w'.cell? ⟨XB, 5, none⟩ = some (.slice ta t.length tc) from by rw [g1.cell]; rfl))))))))
      have hCW : Chg (GF XB F) W w' := (Chg.of_below (H.out.2.2.1.trans (Hmid2.out.below.mono (by omega)))).trans hch (fun i hi => by
       rcases hi with hi | hi
       ·exact .inl hi
       ·right; omega)
      have HF := Lib.hid (And.intro g1 (And.intro hCW (And.intro hsub hr))); clear g1 g2 hCW hsub hch hr
      dsimp only
      (refine hK.out _ _ hS1 (fun hHeld => ?_); clear hK K; (try simp only [Act.put, List.setIfInBounds_toArray, List.set_cons_zero, List.set_cons_succ]))
      refine wpAnyH_done (by kernel_rfl) (NoPanic.normal ?_) _
      go_wp2_with fail
      go_ret
      rw [HF.out.2.2.2]
      exact ⟨Fs, rfl, HF.out.1, HF.out.2.1, HF.out.2.2.1⟩
     ·go_simp
      have hbMB : Below WA.heap.size WA (((WA.drew.drew).alloc (.cells #[.nilFunc] 99)).alloc (.cells #[.bool false] 4)) := hbST.alloc hbST.size _
      have hMB : (((WA.drew.drew).alloc (.cells #[.nilFunc] 99)).alloc (.cells #[.bool false] 4)).heap[WA.heap.size + 1]? = some (.cells #[.bool false] 4 (0, 0)) := by have h0 := heap_alloc_self ((WA.drew.drew).alloc (.cells #[.nilFunc] 99)) (.cells #[.bool false] 4); simpa using h0
      have hST : (((WA.drew.drew).alloc (.cells #[.nilFunc] 99)).alloc (.cells #[.bool false] 4)).heap[WA.heap.size]? = some (.cells #[.nilFunc] 99 (0, 0)) := (Below.heap_alloc _ _ _ (lt_of_heap hST)).trans hST
      have hSMB := hSk _ hbMB
      (refine hK.out _ _ hSMB (fun hHeld => ?_); clear hK K; (try simp only [Act.put, List.setIfInBounds_toArray, List.set_cons_zero, List.set_cons_succ]))
      refine wpAnyH_ready (rs := [5]) (by kernel_rfl) (by simp) (AllReadyH.cons rfl (fun K hK => ?_) AllReadyH.nil)
      go_simp
      go_at_call 189
      refine (Hso.out _ hbMB).mono ?_
      rintro e' wl ⟨LB, RB, CB2, SB, rfl, hLk, hbl⟩
      dsimp only
      have hbw : Below WA.heap.size WA wl := hbMB.trans (hbl.mono hbMB.size)
      have hzl := hbl.size
      (try simp only [World.size_drew, World.size_alloc] at hzl)
      have hSl := hSk _ hbw
      (refine hK.out _ _ hSl (fun hHeld => ?_); clear hK K; (try simp only [Act.put, List.setIfInBounds_toArray, List.set_cons_zero, List.set_cons_succ]))
      have hST : wl.heap[WA.heap.size]? = some (.cells #[.nilFunc] 99 (0, 0)) := (hbl.block _ (lt_of_heap hST)).trans hST
      have hMB : wl.heap[WA.heap.size + 1]? = some (.cells #[.bool false] 4 (0, 0)) := (hbl.block _ (lt_of_heap hMB)).trans hMB
      obtain ⟨wx, hwx⟩ : ∃ wx, wl = wx := ⟨_, rfl⟩
      have hBX := hbw
      rw [hwx] at hMB hST hBX ⊢
      have hbx : Below wl.heap.size wl wx := by rw [← hwx]; exact by (repeat (first | (with_reducible refine Below.setCell ?_ ?_ _) | (with_reducible refine Below.alloc ?_ ?_ _) | (with_reducible refine Below.drew ?_) | (with_reducible refine below_drewN ?_ _) | (with_reducible exact Below.refl _ _) | (with_reducible assumption) | (with_reducible refine Below.trans ?_ (Below.mono (by with_reducible assumption) ?_)) | go_size))
      have hMl := lt_of_heap hMB
      have hTl := lt_of_heap hST
      have hmid := go_mid (XB := XB) (F := F) hLk hBX hbx ⟨by omega, by omega, by omega⟩ hMB hST (fun b h l => by
       (try simp only [World.size_drew, World.size_alloc] at h)
       rcases h with h | h
       ·exact ⟨h.1.1, by omega, by omega⟩
       ·exact ⟨Hno.out b (by omega), by omega, by omega⟩)
      have cM := cell_of_block hMB 0
      have cT := cell_of_block hST 0
      simp only [List.getElem?_toArray, List.getElem?_cons_zero] at cM cT
      have fM := frozen_of_block hMB 0
      have fT := frozen_of_block hST 0
      have hne1 : ¬ WA.heap.size + 1 = WA.heap.size := by omega
      have hne2 : ¬ WA.heap.size = WA.heap.size + 1 := by omega
      have hT1 := hSk _ (hBX.setCell (p := ⟨WA.heap.size + 1, 0, none⟩) (show WA.heap.size ≤ WA.heap.size + 1 by omega) (.bool true))
      have hT2 := hSk _ ((hBX.setCell (p := ⟨WA.heap.size + 1, 0, none⟩) (show WA.heap.size ≤ WA.heap.size + 1 by omega) (.bool true)).setCell (p := ⟨WA.heap.size, 0, none⟩) (show WA.heap.size ≤ WA.heap.size by omega) (stayV LB RB CB2 SB))
      have hlo := hmid.lo
      have Hmid := Lib.hid hmid; clear hmid hLk hBX hbx hMB hST
      (refine wpAnyH_ready (rs := [8]) (by kernel_rfl) (by simp) (AllReadyH.cons rfl (fun K hK => ?_) AllReadyH.nil); go_simp)
      (refine hK.out _ _ hT1 (fun hHeld => ?_); clear hK K; (try simp only [Act.put, List.setIfInBounds_toArray, List.set_cons_zero, List.set_cons_succ]))
      (refine wpAnyH_ready (rs := [9]) (by kernel_rfl) (by simp) (AllReadyH.cons rfl (fun K hK => ?_) AllReadyH.nil); go_simp)
      (refine hK.out _ _ hT2 (fun hHeld => ?_); clear hK K; (try simp only [Act.put, List.setIfInBounds_toArray, List.set_cons_zero, List.set_cons_succ]))
      refine wpAnyH_done (by kernel_rfl) (NoPanic.normal ?_) _
      clear hT1 hT2 cM cT fM fT
      go_wp2_with fail
      obtain ⟨wz, hwz⟩ : ∃ wz, (wx.setCell ⟨WA.heap.size + 1, 0, none⟩ (.bool true)).setCell ⟨WA.heap.size, 0, none⟩ (stayV LB RB CB2 SB) = wz := ⟨_, rfl⟩
      unfold stayV at hwz
      rw [hwz]
      have Hmid2 := Lib.hid (show GoMid m t cuts (locksTo n t cuts (getl t 0).length) XB F LB RB CB2 SB (WA.heap.size + 1) (WA.heap.size) WA wz.drew by rw [← hwz]; exact Hmid.out)
      clear hwz Hmid
      have hlo2 := Hmid2.out.lo
      have hSz := hSk wz.drew Hmid2.out.below
      refine wp_region_noPanic ?_
      refine wp_region_held_drew (S := fun w' => w'.cell? ⟨W.heap.size, 0, none⟩ = some (.pointer (some ⟨XB, 0, none⟩)) ∧ w'.cell? ⟨W.heap.size + 1, 0, none⟩ = some (.slice ca cuts.length cc) ∧ w'.cell? ⟨W.heap.size + 1 + 1, 0, none⟩ = some (.slice none 0 0) ∧ w'.cell? ⟨XB, 0, none⟩ = some (.int .i64 m.c) ∧ w'.cell? ⟨XB, 1, none⟩ = some (.int .i64 m.d) ∧ w'.cell? ⟨XB, 2, none⟩ = some (.int .i64 m.s) ∧ w'.cell? ⟨XB, 3, none⟩ = some (.int .i64 m.e) ∧ w'.cell? ⟨XB, 4, none⟩ = some (.int .i64 m.l) ∧ w'.cell? ⟨XB, 5, none⟩ = some (.slice ta t.length tc)) (by kernel_rfl) hSz (fun hHeld => ?_)
      (refine wpAnyH_take (i := 0) (v := .pointer (some ⟨XB, 0, none⟩)) rfl (by kernel_rfl) (by kernel_rfl) (by kernel_rfl) (fun _ _ _ h => h) (Or.inl ⟨by kernel_rfl, fun w hSw => by (try dsimp only at hSw); go_split_ands; go_simp⟩) (by assumption) ?_; simp only [Act.put, List.setIfInBounds_toArray, List.set_cons_zero, List.set_cons_succ])
      (refine wpAnyH_take (i := 1) (v := .pointer (some ⟨XB, 0, none⟩)) rfl (by kernel_rfl) (by kernel_rfl) (by kernel_rfl) (fun _ _ _ h => h) (Or.inl ⟨by kernel_rfl, fun w hSw => by (try dsimp only at hSw); go_split_ands; go_simp⟩) (by assumption) ?_; simp only [Act.put, List.setIfInBounds_toArray, List.set_cons_zero, List.set_cons_succ])
      (refine wpAnyH_take (i := 2) (v := .pointer (some ⟨XB, 0, none⟩)) rfl (by kernel_rfl) (by kernel_rfl) (by kernel_rfl) (fun _ _ _ h => h) (Or.inl ⟨by kernel_rfl, fun w hSw => by (try dsimp only at hSw); go_split_ands; go_simp⟩) (by assumption) ?_; simp only [Act.put, List.setIfInBounds_toArray, List.set_cons_zero, List.set_cons_succ])
      (refine wpAnyH_take (i := 3) (v := .pointer (some ⟨XB, 0, none⟩)) rfl (by kernel_rfl) (by kernel_rfl) (by kernel_rfl) (fun _ _ _ h => h) (Or.inl ⟨by kernel_rfl, fun w hSw => by (try dsimp only at hSw); go_split_ands; go_simp⟩) (by assumption) ?_; simp only [Act.put, List.setIfInBounds_toArray, List.set_cons_zero, List.set_cons_succ])
      (refine wpAnyH_take (i := 4) (v := .agg #[.int .i64 m.c, .int .i64 m.d, .int .i64 m.s, .int .i64 m.e, .int .i64 m.l]) rfl (by kernel_rfl) (by kernel_rfl) (by kernel_rfl) (fun _ _ _ h => h) (Or.inl ⟨by kernel_rfl, fun w hSw => by (try dsimp only at hSw); go_split_ands; go_simp⟩) (by assumption) ?_; simp only [Act.put, List.setIfInBounds_toArray, List.set_cons_zero, List.set_cons_succ])
      (refine wpAnyH_take (i := 5) (v := .slice none 0 0) rfl (by kernel_rfl) (by kernel_rfl) (by kernel_rfl) (fun _ _ _ h => h) (Or.inl ⟨by kernel_rfl, fun w hSw => by (try dsimp only at hSw); go_split_ands; go_simp⟩) (by assumption) ?_; simp only [Act.put, List.setIfInBounds_toArray, List.set_cons_zero, List.set_cons_succ])
      (refine wpAnyH_take (i := 6) (v := .func (.func 190) #[] #[.pointer (some ⟨W.heap.size + 1 + 1, 0, none⟩), .pointer (some ⟨W.heap.size, 0, none⟩), .pointer (some ⟨WA.heap.size + 1, 0, none⟩), .pointer (some ⟨WA.heap.size, 0, none⟩), .pointer (some ⟨W.heap.size + 1, 0, none⟩)]) rfl (by kernel_rfl) (by kernel_rfl) (by kernel_rfl) (fun _ _ _ h => h) (Or.inl ⟨by kernel_rfl, fun w hSw => by (try dsimp only at hSw); go_split_ands; go_simp⟩) (by assumption) ?_; simp only [Act.put, List.setIfInBounds_toArray, List.set_cons_zero, List.set_cons_succ])
      refine wpAnyH_ready (rs := [7]) (by kernel_rfl) (by simp) (AllReadyH.cons rfl (fun K hK => ?_) AllReadyH.nil)
      go_simp
      refine (Hek.out LB RB CB2 SB _ _ wz.drew Hmid2.out).mono ?_
      rintro e' w' ⟨rfl, Fs, g1, g2, hch, hsub⟩
      obtain ⟨r, hr⟩ : ∃ r, goF limit (stayP n t) vis (keysOf m) (d + 1) cuts s = r := ⟨_, rfl⟩
      rw [hr] at g1 g2 ⊢
      have cM2 : w'.cell? ⟨WA.heap.size + 1, 0, none⟩ = some (.bool r.2) := by rw [cell_of_block g2]; rfl
      have hnf : ∀ b, W.heap.size ≤ b → b < WA.heap.size → ¬ (GF XB F b ∨ b = WA.heap.size + 1) := fun b h1 h2 h => by
       rcases h with h | h
       ·exact Hno.out b h1 h
       ·omega
      have hS1 := And.intro (cell_keep hSz.1 (hch.block _ (lt_of_cell hSz.1) (hnf _ (Nat.le_refl _) (by omega)))) (And.intro (cell_keep hSz.2.1 (hch.block _ (lt_of_cell hSz.2.1) (hnf _ (by omega) (by omega)))) (And.intro (cell_keep hSz.2.2.1 (hch.block _ (lt_of_cell hSz.2.2.1) (hnf _ (by omega) (by omega))))
       (And.intro (show w'.cell? ⟨XB, 0, none⟩ = some (.int .i64 m.c) from by rw [g1.cell]; rfl) (And.intro (show w'.cell? ⟨XB, 1, none⟩ = some (.int .i64 m.d) from by rw [g1.cell]; rfl) (And.intro (show w'.cell? ⟨XB, 2, none⟩ = some (.int .i64 m.s) from by rw [g1.cell]; rfl) (And.intro (show w'.cell? ⟨XB, 3, none⟩ = some (.int .i64 m.e) from by rw [g1.cell]; rfl) (And.intro (show w'.cell? ⟨XB, 4, none⟩ = some (.int .i64 m.l) from by rw [g1.cell]; rfl) (show w'.cell? ⟨XB, 5, none⟩ = some (.slice ta t.length tc) from by rw [g1.cell]; rfl))))))))
      have hCW : Chg (GF XB F) W w' := (Chg.of_below (H.out.2.2.1.trans (Hmid2.out.below.mono (by omega)))).trans hch (fun i hi => by
       rcases hi with hi | hi
       ·exact .inl hi
       ·right; omega)
      have HF := Lib.hid (And.intro g1 (And.intro hCW (And.intro hsub hr))); clear g1 g2 hCW hsub hch hr
      dsimp only
      (refine hK.out _ _ hS1 (fun hHeld => ?_); clear hK K; (try simp only [Act.put, List.setIfInBounds_toArray, List.set_cons_zero, List.set_cons_succ]))
      refine wpAnyH_done (by kernel_rfl) (NoPanic.normal ?_) _
      go_wp2_with fail
      go_ret
      rw [HF.out.2.2.2]
      exact ⟨Fs, rfl, HF.out.1, HF.out.2.1, HF.out.2.2.1⟩
end Go.Proofs.YtmjplkbmhdkggaaGreat
