/- The program's reader of steps, as it is called. No conditions. -/
import Derived.Test.YtjkfgldmeenmjaaReadI
namespace Go.Proofs.Ytjkfgldmeenmjaa
open Go.RowKit
set_option linter.unusedVariables false
set_option linter.unusedSimpArgs false

def RvInv (m : Mk) (tv sv : Value) (steps : List (Int × Int)) (RB B FB : Nat) (st : RSt × Bool) (F : Nat → Prop) (w : World) : Prop :=
  ∃ gv, Rd m tv sv steps RB B st.1 gv w ∧ w.heap[FB]? = some (.cells #[.bool st.2] 4 (0, 0)) ∧ ¬ RF RB gv FB ∧ ∀ b, F b ↔ (RF RB gv b ∨ b = FB)
theorem enters_refute1 : Enters 96 := fun args w => by kernel_rfl
theorem rv_ok (m : Mk) (t : List (List Int)) (n : Nat) (hn : (n : Int) = m.c) (steps : List (Int × Int)) (hsl : steps.length ≤ 1200) (tv sv cv gv0 : Value) (RB B FB B2 B3 d : Nat) (cuts : List (List Int)) (s0 : RSt) (w0 : World)
    (hp : PartOk m t cuts) (hl : cuts.length < t.length) (hcd : cuts.length + (d + 1) = t.length) (IH : RefAny m t tv sv steps RB B d n)
    (h2 : w0.cell? ⟨B2, 0, none⟩ = some (.pointer (some ⟨RB, 0, none⟩))) (f2 : ¬ (RF RB gv0 B2 ∨ B2 = FB)) (h3 : w0.cell? ⟨B3, 0, none⟩ = some cv) (f3 : ¬ (RF RB gv0 B3 ∨ B3 = FB))
    (ht : V2 (fun b => ¬ (RF RB gv0 b ∨ b = FB) ∧ b < w0.heap.size) w0 tv t) (hs : VS (fun b => ¬ (RF RB gv0 b ∨ b = FB) ∧ b < w0.heap.size) w0 sv steps) (hc : V2 (fun b => ¬ (RF RB gv0 b ∨ b = FB) ∧ b < w0.heap.size) w0 cv cuts) (hcp : cuts = [] → PV cv) :
    VisOk m.c.toNat w0 (fun b => RF RB gv0 b ∨ b = FB) 96 #[.pointer (some ⟨B2, 0, none⟩), .pointer (some ⟨FB, 0, none⟩), .pointer (some ⟨B3, 0, none⟩)] (flag (rdStep n t steps (readF n t (keysOf m) steps d) cuts)) (s0, true) (genF m (fun _ _ => true) [] false m.c.toNat []) (RvInv m tv sv steps RB B FB) := by
  refine ⟨enters_refute1, ?_, ?_, ?_⟩
  · rintro s F w w' ⟨gv, h1, h2, h3, h4⟩ hz hk
    exact ⟨gv, h1.keep hz (fun b hb => hk b ((h4 b).2 (.inl hb))), by rw [hk FB ((h4 FB).2 (.inr rfl))]; exact h2, h3, h4⟩
  · rintro s F w ⟨gv, h1, h2, h3, h4⟩ b hb
    rcases (h4 b).1 hb with h | h
    · exact h1.lt h
    · subst h; exact lt_of_heap h2
  · rintro ⟨s, fl⟩ F S w v key done rest hL hr ⟨gv, hR, hFB, hFn, hFi⟩ hchg hsub hV hS hlen
    have hkey : isKeyB m key = true := by
      have hc0 : 0 ≤ m.c := by omega
      refine (mem_keysOf hc0).1 ?_
      have hk : key ∈ genF m (fun _ _ => true) [] false m.c.toNat [] := by rw [hL]; simp
      rw [genF_free] at hk
      exact hk
    have hfar : ∀ b, (¬ (RF RB gv0 b ∨ b = FB) ∧ b < w0.heap.size) → ¬ RF RB gv b ∧ b ≠ FB ∧ b < w.heap.size := fun b hb => by
      refine ⟨fun h => ?_, fun h => hb.1 (.inr h), by have := hchg.size; omega⟩
      rcases hsub b ((hFi b).2 (.inl h)) with h1 | h1
      · exact hb.1 h1
      · omega
    have hkp : Keep (fun b => ¬ (RF RB gv0 b ∨ b = FB) ∧ b < w0.heap.size) w0 w := hchg.keep fun b hb => hb.1
    refine (refute1_any (Far := fun b => ¬ (RF RB gv0 b ∨ b = FB) ∧ b < w0.heap.size) m t n hn steps hsl tv sv cv v gv RB B FB B2 B3 d cuts key s fl w hp hl hcd IH hR hFB hFn hfar (cell_keep h2 (hchg.block _ (lt_of_cell h2) f2)) ⟨f2, lt_of_cell h2⟩ (cell_keep h3 (hchg.block _ (lt_of_cell h3) f3)) ⟨f3, lt_of_cell h3⟩
      (ht.mono (fun _ h _ => h) hkp) (hs.mono (fun _ h _ => h) hkp) (hc.mono (fun _ h _ => h) hkp) hcp hV hkey).mono ?_
    rintro e w' ⟨gv', rfl, h1, h2, h3, h4⟩
    refine ⟨fun b => RF RB gv' b ∨ b = FB, rfl, ⟨gv', h1, h2, fun h => ?_, fun b => Iff.rfl⟩, h3.mono (fun b hb => (hFi b).2 hb), fun b hb => ?_⟩
    · have := lt_of_heap hFB
      rcases h4 FB h with h | h
      · exact hFn h
      · omega
    · rcases hb with h | h
      · rcases h4 b h with h | h
        · exact .inl ((hFi b).2 (.inl h))
        · exact .inr h
      · exact .inl ((hFi b).2 (.inr h))

set_option maxRecDepth 100000 in
set_option maxHeartbeats 1000000 in
theorem refute_any (m : Mk) (t : List (List Int)) (n : Nat) (hn : (n : Int) = m.c) (steps : List (Int × Int)) (hsl : steps.length ≤ 1200) (tv sv : Value) (RB B : Nat) : ∀ d, RefAny m t tv sv steps RB B d n := by
  intro d
  induction d with
  | zero => intro cuts cv s gv W hcd ask; have := ask.lt; omega
  | succ d ih =>
    intro cuts cv s gv W hcd ask
    obtain ⟨hR, ht, hs, hc, hcp, hok, hlt⟩ := ask
    have hmk := hok.fits.ok
    have hRl := lt_of_heap hR.hh
    obtain ⟨ta, tc, rfl, htm⟩ := ht.form
    obtain ⟨sa, sc, rfl, hsm⟩ := hs.form
    obtain ⟨ca, cc, rfl, hcm⟩ := hc.form
    obtain ⟨ga, gc, rfl, hg1, hg2⟩ := own_formz hR.own
    obtain ⟨WA, hWA⟩ : ∃ WA, WA = ((W.alloc (.cells #[.pointer (some ⟨RB, 0, none⟩)] 89)).alloc (.cells #[.slice ca cuts.length cc] 24)).alloc (.cells #[.bool true] 4) := ⟨_, rfl⟩
    have hbA : Below W.heap.size W WA := by rw [hWA]; exact by (repeat (first | (with_reducible refine Below.setCell ?_ ?_ _) | (with_reducible refine Below.alloc ?_ ?_ _) | (with_reducible refine Below.drew ?_) | (with_reducible refine below_drewN ?_ _) | (with_reducible exact Below.refl _ _) | (with_reducible assumption) | (with_reducible refine Below.trans ?_ (Below.mono (by with_reducible assumption) ?_)) | go_size))
    have hzA : WA.heap.size = W.heap.size + 3 := by rw [hWA]; simp
    have hA0 : WA.heap[W.heap.size]? = some (.cells #[.pointer (some ⟨RB, 0, none⟩)] 89 (0, 0)) := by rw [hWA]; simp only [heap_alloc_at, World.size_alloc]; simp; omega
    have hA1 : WA.heap[W.heap.size + 1]? = some (.cells #[.slice ca cuts.length cc] 24 (0, 0)) := by rw [hWA]; simp only [heap_alloc_at, World.size_alloc]; simp
    have hA2 : WA.heap[W.heap.size + 1 + 1]? = some (.cells #[.bool true] 4 (0, 0)) := by rw [hWA]; simp only [heap_alloc_at, World.size_alloc]; simp
    have hRA := hR.below hbA
    have hFn : ¬ RF RB (.slice ga s.2.length gc) (W.heap.size + 1 + 1) := fun h => by have := hR.lt h; omega
    have hol : ∀ b, b < W.heap.size → ¬ RF RB (.slice ga s.2.length gc) b → ¬ (RF RB (.slice ga s.2.length gc) b ∨ b = W.heap.size + 1 + 1) := fun b hb h h2 => by rcases h2 with h2 | h2; exact h h2; omega
    have hnew : ∀ b, W.heap.size ≤ b → b < W.heap.size + 1 + 1 → ¬ (RF RB (.slice ga s.2.length gc) b ∨ b = W.heap.size + 1 + 1) := fun b h1 h2 h => by
      rcases h with h | h
      · have := hR.lt h; omega
      · omega
    have hkA : Keep (fun b => ¬ RF RB (.slice ga s.2.length gc) b) W WA := fun b _ hb => hbA.block b hb
    have htA := ht.mono (S' := fun b => ¬ (RF RB (.slice ga s.2.length gc) b ∨ b = W.heap.size + 1 + 1) ∧ b < WA.heap.size) (fun b h1 h2 => ⟨hol b h2 h1, by omega⟩) hkA
    have hsA := hs.mono (S' := fun b => ¬ (RF RB (.slice ga s.2.length gc) b ∨ b = W.heap.size + 1 + 1) ∧ b < WA.heap.size) (fun b h1 h2 => ⟨hol b h2 h1, by omega⟩) hkA
    have hcA := hc.mono (S' := fun b => ¬ (RF RB (.slice ga s.2.length gc) b ∨ b = W.heap.size + 1 + 1) ∧ b < WA.heap.size) (fun b h1 h2 => ⟨hol b h2 h1, by omega⟩) hkA
    have hV := rv_ok m t n hn steps hsl (.slice ta t.length tc) (.slice sa steps.length sc) (.slice ca cuts.length cc) (.slice ga s.2.length gc) RB B (W.heap.size + 1 + 1) W.heap.size (W.heap.size + 1) d cuts s WA hok hlt (by omega) ih
      (by rw [cell_of_block hA0]; rfl) (hnew _ (Nat.le_refl _) (by omega)) (by rw [cell_of_block hA1]; rfl) (hnew _ (by omega) (by omega)) htA hsA hcA hcp
    have hI : RvInv m (.slice ta t.length tc) (.slice sa steps.length sc) steps RB B (W.heap.size + 1 + 1) (s, true) (fun b => RF RB (.slice ga s.2.length gc) b ∨ b = W.heap.size + 1 + 1) WA := ⟨_, hRA, hA2, hFn, fun b => Iff.rfl⟩
    have hek := eachKey_any (A := fun _ _ => true) (av := .nilFunc) hmk WA hV (.inl ⟨rfl, fun _ _ => rfl⟩) hI
    have hkx : ∀ o1 o2 o3 k, (((W.alloc o1).alloc o2).alloc o3).cell? ⟨RB, k, none⟩ = (#[.int .i64 m.c, .int .i64 m.d, .int .i64 m.s, .int .i64 m.e, .int .i64 m.l, .slice ta t.length tc, .slice sa steps.length sc, .int .i64 (s.1 : Int), .slice ga s.2.length gc] : Array Value)[k]? := fun o1 o2 o3 k => by
      rw [(bcell (show Below W.heap.size W (((W.alloc o1).alloc o2).alloc o3) from by go_grown)).1 _ _ hRl, hR.cell]; rfl
    rw [genF_free, runL_flag] at hek
    have hres : readF n t (keysOf m) steps (d + 1) cuts s = runL (rdStep n t steps (readF n t (keysOf m) steps d) cuts) s (keysOf m) := rfl
    have hgen : gen m m.c.toNat [] = keysOf m := rfl
    rw [hgen] at hek
    obtain ⟨r, hr⟩ : ∃ r, runL (rdStep n t steps (readF n t (keysOf m) steps d) cuts) s (keysOf m) = r := ⟨_, rfl⟩
    rw [hr] at hek hres
    rw [hres]
    have Hek := Lib.hid (And.intro hek (And.intro hR (And.intro hbA (And.intro hzA hWA)))); clear hek hV hI hR hRA hbA hA0 hA1 hA2 hr hres ih ht hs hc htA hsA hcA hkA hnew hol hFn hok hcp hWA
    clear hzA
    go_enter Try.func69, Try.ntmps69
    go_wp2_with fail
    rw [← Hek.out.2.2.2.2]
    refine Hek.out.1.mono ?_
    rintro e' w' ⟨F', ⟨gv', h1, h2, h3, h4⟩, hch, hsub, rfl⟩
    have hzA := Hek.out.2.2.2.1
    have hzw := hch.size
    have cF : w'.cell? ⟨W.heap.size + 1 + 1, 0, none⟩ = some (.bool r.2) := by rw [cell_of_block h2]; rfl
    have hchW : Chg (RF RB (.slice ga s.2.length gc)) W w' := (Chg.of_below Hek.out.2.2.1).trans hch (fun i hi => by
      rcases hi with hi | hi
      · exact .inl hi
      · right; omega)
    have hsW : ∀ b, RF RB gv' b → RF RB (.slice ga s.2.length gc) b ∨ W.heap.size ≤ b := fun b hb => by
      rcases hsub b ((h4 b).2 (.inl hb)) with (h | h) | h
      · exact .inl h
      · right; omega
      · right; omega
    have HF := Lib.hid (And.intro h1 (And.intro hchW hsW)); clear h1 h2 h3 h4 hch hsub hchW hsW
    go_wp2_with fail
    go_ret
    exact ⟨gv', rfl, HF.out.1, HF.out.2.1, HF.out.2.2⟩
end Go.Proofs.Ytjkfgldmeenmjaa
