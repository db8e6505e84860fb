/- Worlds in which boxes stand while calls make new memory: for regions that draw their order. No conditions. -/
import Derived.Deep.RegionHeld3
import Derived.Test.YtikdbjaimcciiaaGreatMLib
namespace Go.Proofs.YtikdbjaimcciiaaGreat
open Go.RowKit
set_option linter.unusedVariables false
set_option linter.unusedSimpArgs false

theorem one_keep {b : Nat} {w0 w w' : World} {cs : Array Value} (hb1 : b < w0.heap.size) (h : (∀ o, w.cell? ⟨b, o, none⟩ = cs[o]?) ∧ Below w0.heap.size w0 w) (hb : Below w.heap.size w w') :
    (∀ o, w'.cell? ⟨b, o, none⟩ = cs[o]?) ∧ Below w0.heap.size w0 w' := by
  obtain ⟨h1, h3⟩ := h
  have := h3.size
  exact ⟨fun o => by rw [(bcell hb).1 _ _ (by omega), h1], h3.trans (hb.mono h3.size)⟩
theorem one_below {b : Nat} {w0 w : World} {cs : Array Value} (h : (∀ o, w.cell? ⟨b, o, none⟩ = cs[o]?) ∧ Below w0.heap.size w0 w) : Below w0.heap.size w0 w := h.2
theorem two_keep {b b' : Nat} {w0 w w' : World} {cs cs' : Array Value} (hb1 : b < w0.heap.size ∧ b' < w0.heap.size) (h : (∀ o, w.cell? ⟨b, o, none⟩ = cs[o]?) ∧ (∀ o, w.cell? ⟨b', o, none⟩ = cs'[o]?) ∧ Below w0.heap.size w0 w) (hb : Below w.heap.size w w') :
    (∀ o, w'.cell? ⟨b, o, none⟩ = cs[o]?) ∧ (∀ o, w'.cell? ⟨b', o, none⟩ = cs'[o]?) ∧ Below w0.heap.size w0 w' := by
  obtain ⟨h1, h2, h3⟩ := h
  have := h3.size
  exact ⟨fun o => by rw [(bcell hb).1 _ _ (by omega), h1], fun o => by rw [(bcell hb).1 _ _ (by omega), h2], h3.trans (hb.mono h3.size)⟩
theorem two_below {b b' : Nat} {w0 w : World} {cs cs' : Array Value} (h : (∀ o, w.cell? ⟨b, o, none⟩ = cs[o]?) ∧ (∀ o, w.cell? ⟨b', o, none⟩ = cs'[o]?) ∧ Below w0.heap.size w0 w) : Below w0.heap.size w0 w := h.2.2

end Go.Proofs.YtikdbjaimcciiaaGreat
