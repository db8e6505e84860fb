/- The program's visit of all keys, as it is called. No conditions. -/
import Derived.Laws.EntriesVeiled
import Derived.Test.YtikdbjaimcciiaaGreatEach4
namespace Go.Proofs.YtikdbjaimcciiaaGreat
open Go.RowKit
set_option linter.unusedVariables false
set_option linter.unusedSimpArgs false

theorem neqNilS (w : World) : Sem.run Tryz.prog (binOp .neq 35 (.slice none 0 0) (.slice none 0 0)) w = .ok (.bool false) w := by kernel_rfl
theorem heap_alloc_at (w : World) (o : Obj) (k : Nat) : (w.alloc o).heap[k]? = if k = w.heap.size then some o else w.heap[k]? := by
  show (w.heap.push o)[k]? = _
  rw [Array.getElem?_push]

/-- The blocks as they are made, one by one. -/
def ekAt (N : Nat) : EK := ⟨N + 1 + 1 + 1 + 1 + 1, N, N + 1 + 1 + 1, N + 1, N + 1 + 1, N + 1 + 1 + 1 + 1 + 1 + 1⟩
theorem es_make {σ : Type} {Inv : σ → (Nat → Prop) → World → Prop} {F0 : Nat → Prop} {s0 : σ} (m : Mk) (w : World) (fv av vv : Value) (Tm Tf Ta Tv Tk Tc : TypeId)
    (V : ∀ s F w w', Inv s F w → w.heap.size ≤ w'.heap.size → (∀ b, F b → w'.heap[b]? = w.heap[b]?) → Inv s F w') (hl : ∀ b, F0 b → b < w.heap.size) (hI : Inv s0 F0 w) :
    ES m w F0 Inv (ekAt w.heap.size) fv av vv s0 F0 (((((((w.alloc (.cells #[.int .i64 m.c, .int .i64 m.d, .int .i64 m.s, .int .i64 m.e, .int .i64 m.l] Tm)).alloc (.cells #[fv] Tf)).alloc (.cells #[av] Ta)).alloc (.cells #[vv] Tv)).alloc (.cells #[] 2)).alloc (.cells #[.slice (some ⟨w.heap.size + 1 + 1 + 1 + 1, 0, none⟩) 0 0] Tk)).alloc (.cells #[cutV (ekAt w.heap.size)] Tc)) [] (.slice (some ⟨w.heap.size + 1 + 1 + 1 + 1, 0, none⟩) 0 0) := by
  have hb : ∀ (o1 o2 o3 o4 o5 o6 o7 : Obj), Below w.heap.size w (((((((w.alloc o1).alloc o2).alloc o3).alloc o4).alloc o5).alloc o6).alloc o7) := fun _ _ _ _ _ _ _ => by
    repeat (first | exact Below.refl _ _ | refine Below.alloc ?_ (by simp; try omega) _)
  refine ⟨Chg.of_below (hb _ _ _ _ _ _ _), fun b h => .inl h, V _ _ _ _ hI (hb _ _ _ _ _ _ _).size (fun b h => (hb _ _ _ _ _ _ _).block b (hl b h)), fun b h => Nat.lt_of_lt_of_le (hl b h) (hb _ _ _ _ _ _ _).size, ?_, ?_, ⟨Tm, ?_⟩, ⟨Tv, ?_⟩, ⟨Tf, ?_⟩, ⟨Ta, ?_⟩, ⟨Tc, ?_⟩, ⟨Tk, ?_⟩, ?_, ?_⟩
  · intro b h
    simp only [EK.has, ekAt] at h
    simp only [World.size_alloc]
    refine ⟨by omega, by omega, fun hf => by have := hl b hf; omega⟩
  · simp only [ekAt]; omega
  · simp only [ekAt, heap_alloc_at, World.size_alloc]; (repeat rw [if_neg (by omega)]); simp
  · simp only [ekAt, heap_alloc_at, World.size_alloc]; simp
  · simp only [ekAt, heap_alloc_at, World.size_alloc]; simp
  · simp only [ekAt, heap_alloc_at, World.size_alloc]; simp
  · simp only [heap_alloc_at, World.size_alloc]; simp [ekAt]
  · simp only [ekAt, heap_alloc_at, World.size_alloc]; simp
  · refine ⟨rfl, .inr ⟨w.heap.size + 1 + 1 + 1 + 1, 0, #[], rfl, by omega, ?_, Nat.le_refl _, Nat.zero_le _, rfl, rfl⟩⟩
    simp only [heap_alloc_at, World.size_alloc]; simp
  · intro g hg
    simp only [Value.ownBlock, Option.some.injEq] at hg
    subst hg
    refine ⟨fun hf => by have := hl _ hf; omega, fun h => ?_⟩
    simp only [EK.has, ekAt] at h
    omega

section
variable {σ : Type} {m : Mk} {w0 : World} {F0 : Nat → Prop} {f : FuncId} {caps : Array Value} {step : σ → List Int → σ × Bool} {s0 : σ} {L : List (List Int)} {Inv : σ → (Nat → Prop) → World → Prop} {o : EK} {fv av : Value} {A : Nat → Int → Bool} {fr : List Int}
set_option maxRecDepth 100000 in
theorem eachKey_any (hm : m.ok = true) (w : World) (V : VisOk m.c.toNat w F0 f caps step s0 (genF m A [] false m.c.toNat []) Inv) (hA : AOk m w F0 av A) (hI : Inv s0 F0 w) :
    Calls Tryz.prog 178 #[.agg #[.int .i64 m.c, .int .i64 m.d, .int .i64 m.s, .int .i64 m.e, .int .i64 m.l], .slice none 0 0, av, .func (.func f) #[] caps] w
      (fun e w' => ∃ F', Inv (runL step s0 (genF m A [] false m.c.toNat [])).1 F' w' ∧ Chg F0 w w' ∧ (∀ b, F' b → F0 b ∨ w.heap.size ≤ b) ∧ e = .returned undef) := by
  have hS := neqNilS
  have hmk := Mk.ok_iff.1 hm
  have hl : (([] : List Int).length : Int) + m.c.toNat = m.c := by simp; omega
  have Hl := Lib.hid hl; clear hl hmk
  have HA := Lib.hid hA
  rcases hA with ⟨rfl, hA1⟩ | ⟨fa, ac, rfl, hen, hcl⟩
  · clear hA1
    have hES := es_make (σ := σ) m w (.slice none 0 0) .nilFunc (.func (.func f) #[] caps) 25 35 167 148 35 187 V.keep (V.lt _ _ _ hI) hI
    have HES := Lib.hid hES; clear hES
    have HV := Lib.hid V; clear V hI
    go_enter Tryz.func178, Tryz.ntmps178
    go_wp2_with fail
    refine (cut_free (fr := []) hm HV.out HA.out m.c.toNat s0 F0 _ [] _ [] [] Hl.out (fun k hk => by simp at hk) (by simp) rfl HES.out).mono ?_
    rintro e w' ⟨F', kv', rfl, hE⟩
    have HE := Lib.hid hE; clear hE
    go_wp2_with fail
    go_end0
    exact ⟨F', HE.out.inv, HE.out.chg, HE.out.sub, rfl⟩
  · clear hcl
    have hES := es_make (σ := σ) m w (.slice none 0 0) (.func (.func fa) #[] ac) (.func (.func f) #[] caps) 25 35 167 148 35 187 V.keep (V.lt _ _ _ hI) hI
    have HES := Lib.hid hES; clear hES
    have HV := Lib.hid V; clear V hI hen
    go_enter Tryz.func178, Tryz.ntmps178
    go_wp2_with fail
    refine (cut_free (fr := []) hm HV.out HA.out m.c.toNat s0 F0 _ [] _ [] [] Hl.out (fun k hk => by simp at hk) (by simp) rfl HES.out).mono ?_
    rintro e w' ⟨F', kv', rfl, hE⟩
    have HE := Lib.hid hE; clear hE
    go_wp2_with fail
    go_end0
    exact ⟨F', HE.out.inv, HE.out.chg, HE.out.sub, rfl⟩
end
end Go.Proofs.YtikdbjaimcciiaaGreat
