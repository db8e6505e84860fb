/- Worn keys, as the reference tells what they may open. No conditions. -/
import Derived.Test.YtbckginfipeibaaWear
namespace Go.Proofs.Ytbckginfipeibaa
open Go.RowKit
set_option linter.unusedVariables false
set_option linter.unusedSimpArgs false

def freeFrom (tol p : Int) (set : List Int) (k : Nat) : Bool := (set.drop k).any fun d => decide (absI (p - 10 * d) ≤ tol)
theorem freeFrom_step {tol p : Int} {set : List Int} {k : Nat} (h : k < set.length) : freeFrom tol p set k = (decide (absI (p - 10 * geti set k) ≤ tol) || freeFrom tol p set (k + 1)) := by
  unfold freeFrom
  rw [List.drop_eq_getElem_cons h, List.any_cons, geti_eq h]
theorem l08Free_any {S : Nat → Prop} (v : Value) (set : List Int) (p tol : Int) (W : World) (h : V1 S W v set) (hs : Small set) (hp : 0 ≤ p ∧ p ≤ 100) :
    Calls Try.prog 162 #[v, .int .i64 p, .int .i64 tol] W fun e w' => e = .returned (.bool (freeB tol p set)) ∧ W = w' := by
  have hV := h
  obtain ⟨a, c, rfl, hm⟩ := h.form
  obtain ⟨r, hr⟩ : ∃ r, freeB tol p set = r := ⟨_, rfl⟩
  rw [hr]
  have Hr := Lib.hid (show freeFrom tol p set 0 = r from hr); clear hr
  have Hs := Lib.hid hs; clear hs
  go_enter Try.func162, Try.ntmps162
  go_wp2_with fail
  go_loop [7] (fun i => ∃ k : Nat, k ≤ set.length ∧ i = .int .i64 (k : Int) ∧ freeFrom tol p set k = r) (fun i => set.length - (intOf i).toNat)
  case atStart => exact ⟨0, Nat.zero_le _, rfl, Hr.out⟩
  case round =>
    obtain ⟨k, hk, rfl, hrem⟩ := hrel
    have Hrem := Lib.hid hrem; clear hrem
    by_cases hkk : k < set.length
    · obtain ⟨b1, off1, rfl, _, hc1⟩ := hV.cell hkk
      have hd := Hs.out _ (geti_mem hkk)
      have hst := freeFrom_step (tol := tol) (p := p) hkk
      obtain ⟨d, hde⟩ : ∃ d, geti set k = d := ⟨_, rfl⟩
      rw [hde] at hc1 hd hst
      have hw1 : IntKind.i64.wrap (10 * d) = 10 * d := IntWalk.i64_in _ (by omega)
      have hw2 : IntKind.i64.wrap (p - 10 * d) = p - 10 * d := IntWalk.i64_in _ (by omega)
      obtain ⟨q, hq⟩ : ∃ q, absI (p - 10 * d) = q := ⟨_, rfl⟩
      rw [hq] at hst
      by_cases hqt : q ≤ tol
      · have hfin : true = r := by rw [← Hrem.out, hst, decide_eq_true hqt]; rfl
        have Hq := Lib.hid (And.intro hq hst); clear hq hst hde
        subst hfin
        go_wp2_with (go_at_call 161; refine (l01Abs_b _ _ _ Hq.out.1 (by omega)).mono ?_; rintro e' w' ⟨rfl, rfl⟩)
        go_ret
        exact ⟨rfl, rfl⟩
      · have hrem2 : freeFrom tol p set (k + 1) = r := by rw [← Hrem.out, hst, decide_eq_false hqt]; rfl
        have Hq := Lib.hid (And.intro hq (And.intro hst hrem2)); clear hq hst hde hrem2
        go_wp2_with (go_at_call 161; refine (l01Abs_b _ _ _ Hq.out.1 (by omega)).mono ?_; rintro e' w' ⟨rfl, rfl⟩)
        go_round
        case rel => exact ⟨k + 1, by omega, by go_num, Hq.out.2.2⟩
        case measure => simp [intOf]; omega
    · obtain rfl : k = set.length := by omega
      have hfin : false = r := by rw [← Hrem.out]; unfold freeFrom; rw [List.drop_length]; rfl
      subst hfin
      go_wp2_with fail
      go_ret
      exact ⟨rfl, rfl⟩
def allTo (tol p : Int) (set : List Int) : Nat → Bool
  | 0 => true
  | n + 1 => allTo tol p set n && freeB tol (p + n) set
theorem l08Cut_any {S : Nat → Prop} (v : Value) (set : List Int) (cut wear tol : Int) (W : World) (h : V1 S W v set) (hs : Small set) (hc : 0 ≤ cut ∧ cut ≤ 7) (hw : 0 ≤ wear ∧ wear ≤ 19) :
    Calls Try.prog 127 #[v, .int .i64 cut, .int .i64 wear, .int .i64 tol] W fun e w' => e = .returned (.tuple #[.bool (someTo tol (10 * cut) set (wear.toNat + 1)), .bool (allTo tol (10 * cut) set (wear.toNat + 1))]) ∧ W = w' := by
  have hV := h
  obtain ⟨a, c, rfl, hm⟩ := h.form
  obtain ⟨n, rfl⟩ : ∃ n : Nat, wear = (n : Int) := ⟨wear.toNat, by omega⟩
  rw [Int.toNat_natCast]
  have hw1 : IntKind.i64.wrap (10 * cut) = 10 * cut := IntWalk.i64_in _ (by omega)
  obtain ⟨P, hP⟩ : ∃ P, 10 * cut = P := ⟨_, rfl⟩
  rw [hP] at hw1 ⊢
  have hP7 : 0 ≤ P ∧ P ≤ 70 := by omega
  have Hs := Lib.hid hs; clear hs
  go_enter Try.func127, Try.ntmps127
  go_wp2_with fail
  go_loop [10, 11, 12, 13] (fun so al i _ => ∃ k : Nat, k ≤ n + 1 ∧ i = .int .i64 (k : Int) ∧ so = .bool (someTo tol P set k) ∧ al = .bool (allTo tol P set k)) (fun _ _ i _ => (n + 1 - (intOf i).toNat))
  case atStart => exact ⟨0, Nat.zero_le _, rfl, rfl, rfl⟩
  case round =>
    obtain ⟨k, hk, rfl, rfl, rfl⟩ := hrel
    by_cases hkk : k < n + 1
    · have hst : someTo tol P set (k + 1) = (someTo tol P set k || freeB tol (P + k) set) := rfl
      have hst2 : allTo tol P set (k + 1) = (allTo tol P set k && freeB tol (P + k) set) := rfl
      have hle : ((k : Int) ≤ (n : Int)) := by omega
      have hw2 : IntKind.i64.wrap (P + (k : Int)) = P + (k : Int) := IntWalk.i64_in _ (by omega)
      have hcl := l08Free_any _ set (P + (k : Int)) tol W hV Hs.out (by omega)
      obtain ⟨f, hf⟩ : ∃ f, freeB tol (P + (k : Int)) set = f := ⟨_, rfl⟩
      obtain ⟨s, hse⟩ : ∃ s, someTo tol P set k = s := ⟨_, rfl⟩
      obtain ⟨b, hbe⟩ : ∃ b, allTo tol P set k = b := ⟨_, rfl⟩
      rw [hf] at hcl hst hst2
      rw [hse] at hst ⊢
      rw [hbe] at hst2 ⊢
      have Hst := Lib.hid (And.intro hst (And.intro hcl (And.intro hst2 (And.intro hse (And.intro hbe hf))))); clear hst hcl hf hse hst2 hbe
      cases s <;> cases b <;> cases f <;> (
        go_wp2_with (go_at_call 162; refine Hst.out.2.1.mono ?_; rintro e' w' ⟨rfl, rfl⟩)
        go_round
        case rel => exact ⟨k + 1, by omega, by go_num, by rw [Hst.out.1]; rfl, by rw [Hst.out.2.2.1]; rfl⟩
        case measure => simp [intOf]; omega)
    · obtain rfl : k = n + 1 := by omega
      have hle : ¬ (((n + 1 : Nat) : Int) ≤ (n : Int)) := by omega
      go_wp2_with fail
      go_ret2
      exact ⟨rfl, rfl⟩
/-- A key with wear may open a lock, and surely opens it, seen as far as cut k. -/
def mayTo (wear tol : Int) (l : List (List Int)) (key : List Int) : Nat → Bool
  | 0 => true
  | k + 1 => mayTo wear tol l key k && someTo tol (10 * geti key k) (getl l k) (wear.toNat + 1)
def sureTo (wear tol : Int) (l : List (List Int)) (key : List Int) : Nat → Bool
  | 0 => true
  | k + 1 => sureTo wear tol l key k && allTo tol (10 * geti key k) (getl l k) (wear.toNat + 1)
theorem three_at {b0 b1 b2 o1 o2 : Nat} {c0 c1 c2 : Value} {w w' : World} (h : w.cell? ⟨b0, 0, none⟩ = some c0 ∧ w.cell? ⟨b1, o1, none⟩ = some c1 ∧ w.cell? ⟨b2, o2, none⟩ = some c2 ∧ True) (hb : Below w.heap.size w w') : w'.cell? ⟨b0, 0, none⟩ = some c0 ∧ w'.cell? ⟨b1, o1, none⟩ = some c1 ∧ w'.cell? ⟨b2, o2, none⟩ = some c2 :=
  ⟨cell_keep h.1 (hb.block _ (lt_of_cell h.1)), cell_keep h.2.1 (hb.block _ (lt_of_cell h.2.1)), cell_keep h.2.2.1 (hb.block _ (lt_of_cell h.2.2.1))⟩
set_option maxRecDepth 100000 in
set_option maxHeartbeats 1000000 in
theorem l08Key_any {S S' : Nat → Prop} (u kv : Value) (l : List (List Int)) (key : List Int) (wear tol : Int) (W : World) (h : V2 S W u l) (hk : V1 S' W kv key) (hl : key.length ≤ l.length) (hs : ∀ i, Small (getl l i)) (hc : ∀ i, i < key.length → 0 ≤ geti key i ∧ geti key i ≤ 7) (hw : 0 ≤ wear ∧ wear ≤ 19) :
    Calls Try.prog 75 #[.agg #[u], kv, .int .i64 wear, .int .i64 tol] W fun e w' => e = .returned (.tuple #[.bool (mayTo wear tol l key key.length), .bool (sureTo wear tol l key key.length)]) ∧ Below W.heap.size W w' := by
  obtain ⟨a, c, rfl, hmx⟩ := h.form
  obtain ⟨ka, kc, rfl, hkx⟩ := hk.form
  obtain ⟨W1, hW1, hB1, hz1, HZ1, hc1, hh1⟩ := box_facts W #[.slice a l.length c] 79
  have h1 := h.below hB1
  have hk1 := hk.below hB1
  have hcL : W1.cell? ⟨W.heap.size, 0, none⟩ = some (.slice a l.length c) := by rw [hc1]; rfl
  have Hs := Lib.hid (And.intro hs hc); clear hs hc
  clear hh1 hc1
  go_enter Try.func75, Try.ntmps75
  go_wp2_with fail
  rw [← hW1]
  have HW1 := Lib.hid hW1; clear hW1
  go_loopw [10, 11, 12, 13, 14] (fun so al i _ _ wr => ∃ k : Nat, k ≤ key.length ∧ i = .int .i64 (k : Int) ∧ so = .bool (mayTo wear tol l key k) ∧ al = .bool (sureTo wear tol l key k) ∧ Below W1.heap.size W1 wr) (fun _ _ i _ _ _ => (key.length - (intOf i).toNat))
  case atStart => exact ⟨0, Nat.zero_le _, rfl, rfl, rfl, Below.refl _ _⟩
  case round =>
    obtain ⟨k, hk, rfl, rfl, rfl, hB⟩ := hrel
    have hzr := hB.size
    by_cases hkk : k < key.length
    · obtain ⟨b1, off1, rfl, _, hck⟩ := (hk1.below hB).cell hkk
      obtain ⟨b2, off2, a2, c2, rfl, _, hc2, hr2⟩ := (h1.below hB).cell (k := k) (by omega)
      have hx := Hs.out.2 k hkk
      have hst : mayTo wear tol l key (k + 1) = (mayTo wear tol l key k && someTo tol (10 * geti key k) (getl l k) (wear.toNat + 1)) := rfl
      have hst2 : sureTo wear tol l key (k + 1) = (sureTo wear tol l key k && allTo tol (10 * geti key k) (getl l k) (wear.toNat + 1)) := rfl
      have hcl := fun w (h : V1 S w (.slice a2 (getl l k).length c2) (getl l k)) => l08Cut_any _ (getl l k) (geti key k) wear tol w h (Hs.out.1 k) hx hw
      obtain ⟨x, hxe⟩ : ∃ x, geti key k = x := ⟨_, rfl⟩
      rw [hxe] at hcl hck hst hst2
      obtain ⟨p, hp⟩ : ∃ p, someTo tol (10 * x) (getl l k) (wear.toNat + 1) = p := ⟨_, rfl⟩
      obtain ⟨q, hq⟩ : ∃ q, allTo tol (10 * x) (getl l k) (wear.toNat + 1) = q := ⟨_, rfl⟩
      obtain ⟨s, hse⟩ : ∃ s, mayTo wear tol l key k = s := ⟨_, rfl⟩
      obtain ⟨b, hbe⟩ : ∃ b, sureTo wear tol l key k = b := ⟨_, rfl⟩
      rw [hp, hq] at hcl
      rw [hp, hse] at hst
      rw [hq, hbe] at hst2
      rw [hse, hbe]
      have hcLr := cell_keep hcL (hB.block _ (lt_of_cell hcL))
      have hS := And.intro hcLr (And.intro hc2 (And.intro hck True.intro))
      have Hst := Lib.hid (And.intro hst (And.intro hst2 hcl)); clear hst hst2 hcl hp hq hse hbe hxe
      have hkl : (k : Int) < (l.length : Int) := by omega
      have hkk2 : (k : Int) < (key.length : Int) := by omega
      have hk0 : (0 : Int) ≤ (k : Int) := by omega
      cases s <;> cases b <;> cases p <;> cases q <;> (
        go_wp2_with fail
        go_region_held3 (fun w' => w'.cell? ⟨W.heap.size, 0, none⟩ = some (.slice (some ⟨b2, off2, none⟩) l.length c) ∧ w'.cell? ⟨b2, off2 + k, none⟩ = some (.slice a2 (getl l k).length c2) ∧ w'.cell? ⟨b1, off1 + k, none⟩ = some (.int .i64 x)) (first | exact three_at hS (Below.refl _ _).drew | assumption) (first | (go_at_call 127; refine (Hst.out.2.2 _ (hr2.below (Below.refl _ _).drew)).mono ?_; rintro e' w' ⟨rfl, rfl⟩))
        go_wp2_with fail
        go_roundw
        case rel => exact ⟨k + 1, by omega, by go_num, by rw [Hst.out.1]; rfl, by rw [Hst.out.2.1]; rfl, hB.trans ((Below.refl _ _).drew.mono hzr)⟩
        case measure => simp [intOf]; omega)
    · obtain rfl : k = key.length := by omega
      go_wp2_with fail
      go_ret2
      exact ⟨rfl, hB1.trans (hB.mono (by omega))⟩
end Go.Proofs.Ytbckginfipeibaa
