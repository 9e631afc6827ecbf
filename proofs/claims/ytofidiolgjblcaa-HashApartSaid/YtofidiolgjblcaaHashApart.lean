/- HashApart: bytes of one length that differ in just one byte have other sums. -/
import Derived.Test.YtofidiolgjblcaaHashRef
namespace Go.Proofs.Ytofidiolgjblcaa
open Go Go.RowKit
set_option linter.unusedVariables false
set_option linter.unusedSimpArgs false
theorem xor_inj {a b x : Nat} (h : a ^^^ x = b ^^^ x) : a = b := by
  have := congrArg (· ^^^ x) h
  simpa [Nat.xor_assoc] using this
/-- Times the prime is undone by its inverse. -/
theorem mul64_inj {a b : Nat} (ha : a < 18446744073709551616) (hb : b < 18446744073709551616) (h : (a * 1099511628211) % 18446744073709551616 = (b * 1099511628211) % 18446744073709551616) : a = b := by
  have key : ∀ c : Nat, c < 18446744073709551616 → ((c * 1099511628211) % 18446744073709551616 * 14886173955864302971) % 18446744073709551616 = c := fun c hc => by
    rw [Nat.mul_mod, Nat.mod_mod, ← Nat.mul_mod, Nat.mul_assoc, Nat.mul_mod, show 1099511628211 * 14886173955864302971 % 18446744073709551616 = 1 from by decide +kernel, Nat.mul_one, Nat.mod_mod, Nat.mod_eq_of_lt hc]
  rw [← key a ha, ← key b hb, h]
theorem mul32_inj {a b : Nat} (ha : a < 4294967296) (hb : b < 4294967296) (h : (a * 16777619) % 4294967296 = (b * 16777619) % 4294967296) : a = b := by
  have key : ∀ c : Nat, c < 4294967296 → ((c * 16777619) % 4294967296 * 899433627) % 4294967296 = c := fun c hc => by
    rw [Nat.mul_mod, Nat.mod_mod, ← Nat.mul_mod, Nat.mul_assoc, Nat.mul_mod, show 16777619 * 899433627 % 4294967296 = 1 from by decide +kernel, Nat.mul_one, Nat.mod_mod, Nat.mod_eq_of_lt hc]
  rw [← key a ha, ← key b hb, h]
theorem onK64_nat (s b : Nat) (hs : s < 18446744073709551616) (hb : b < 256) : onK .u64 1099511628211 (s : Int) b = (((s ^^^ b) * 1099511628211 % 18446744073709551616 : Nat) : Int) := by
  have hw : IntKind.u64.wrap (b : Int) = (b : Int) := by rw [IntKind.wrap_u64]; omega
  unfold onK
  rw [hw, bits_xor_u64_nat _ _ hs (by omega), IntKind.wrap_u64]
  omega
/-- One step takes different sums, or different bytes, to different sums. -/
theorem step64 {s t b d : Nat} (hs : s < 18446744073709551616) (ht : t < 18446744073709551616) (hb : b < 256) (hd : d < 256) (h : onK .u64 1099511628211 (s : Int) b = onK .u64 1099511628211 (t : Int) d) : s ^^^ b = t ^^^ d := by
  rw [onK64_nat s b hs hb, onK64_nat t d ht hd] at h
  exact mul64_inj (Nat.xor_lt_two_pow (n := 64) (by omega) (by omega)) (Nat.xor_lt_two_pow (n := 64) (by omega) (by omega)) (Int.ofNat.inj h)
theorem fnv_inj : ∀ (xs : List Nat) (s t : Nat), (∀ x ∈ xs, x < 256) → s < 18446744073709551616 → t < 18446744073709551616 → fnv s xs = fnv t xs → s = t
  | [], s, t, _, _, _, h => by simp [fnv] at h; omega
  | x :: xs, s, t, hx, hs, ht, h => by
    have h' : fnv (onK .u64 1099511628211 (s : Int) x) xs = fnv (onK .u64 1099511628211 (t : Int) x) xs := h
    have hxb := hx x (by simp)
    have e := step64 hs ht hxb hxb
    rw [onK64_nat s x hs hxb, onK64_nat t x ht hxb] at h' e
    have := fnv_inj xs _ _ (fun y hy => hx y (by simp [hy])) (Nat.mod_lt _ (by omega)) (Nat.mod_lt _ (by omega)) h'
    exact xor_inj (e (by rw [this]))
theorem xor_self_zero {s b x : Nat} (h : s ^^^ b = s ^^^ (b ^^^ x)) : x = 0 := by
  have h1 := congrArg (s ^^^ ·) h
  simp only [← Nat.xor_assoc, Nat.xor_self, Nat.zero_xor] at h1
  have h2 := congrArg (b ^^^ ·) h1
  simp only [← Nat.xor_assoc, Nat.xor_self, Nat.zero_xor] at h2
  omega
theorem fnv_set : ∀ (xs : List Nat) (k s b x : Nat), (∀ y ∈ xs, y < 256) → s < 18446744073709551616 → xs[k]? = some b → x < 256 → fnv s xs = fnv s (xs.set k (b ^^^ x)) → x = 0
  | [], k, s, b, x, _, _, hk, _, _ => by simp at hk
  | y :: xs, 0, s, b, x, hx, hs, hk, hx2, h => by
    simp at hk
    subst hk
    have hb := hx y (by simp)
    have hb2 : y ^^^ x < 256 := Nat.xor_lt_two_pow (n := 8) hb hx2
    have h' : fnv (onK .u64 1099511628211 (s : Int) y) xs = fnv (onK .u64 1099511628211 (s : Int) (y ^^^ x)) xs := h
    have e := step64 hs hs hb hb2
    rw [onK64_nat s y hs hb, onK64_nat s _ hs hb2] at h' e
    have := fnv_inj xs _ _ (fun y hy => hx y (by simp [hy])) (Nat.mod_lt _ (by omega)) (Nat.mod_lt _ (by omega)) h'
    exact xor_self_zero (e (by rw [this]))
  | y :: xs, k + 1, s, b, x, hx, hs, hk, hx2, h => by
    have hb := hx y (by simp)
    have h' : fnv (onK .u64 1099511628211 (s : Int) y) xs = fnv (onK .u64 1099511628211 (s : Int) y) (xs.set k (b ^^^ x)) := h
    rw [onK64_nat s y hs hb] at h'
    exact fnv_set xs k _ b x (fun y hy => hx y (by simp [hy])) (Nat.mod_lt _ (by omega)) (by simpa using hk) hx2 h'
theorem sum64_set {xs : List Nat} {k b x : Nat} (ha : ∀ y ∈ xs, y < 256) (hk : xs[k]? = some b) (hx : x < 256) : (sum64 xs == sum64 (xs.set k (b ^^^ x))) = decide (x = 0) := by
  by_cases h : x = 0
  · subst h
    have : xs.set k (b ^^^ 0) = xs := by
      rw [Nat.xor_zero]
      obtain ⟨h1, rfl⟩ := List.getElem?_eq_some_iff.1 hk
      exact List.set_getElem_self h1
    rw [this]
    simp
  · rw [decide_eq_false h, beq_eq_false_iff_ne]
    exact fun e => h (fnv_set xs k 14695981039346656037 b x ha (by omega) hk hx e)
def fnv32 (s : Int) (xs : List Nat) : Int := xs.foldl (onK .u32 16777619) s
theorem xor32_nat (a b : Nat) (ha : a < 4294967296) (hb : b < 4294967296) : bits .xor .u32 (a : Int) (b : Int) = ((a ^^^ b : Nat) : Int) := by
  have hx : a ^^^ b < 2 ^ 32 := Nat.xor_lt_two_pow (by omega) (by omega)
  have h1 : (BitVec.ofInt 32 (a : Int)).toNat = a := by
    simp [BitVec.toNat_ofInt]; omega
  have h2 : (BitVec.ofInt 32 (b : Int)).toNat = b := by
    simp [BitVec.toNat_ofInt]; omega
  show IntKind.u32.wrap _ = _
  rw [IntKind.wrap_u32]
  show (((BitVec.ofInt 32 (a : Int) ^^^ BitVec.ofInt 32 (b : Int)).toNat : Nat) : Int) % 4294967296 = _
  rw [BitVec.toNat_xor, h1, h2]
  omega
theorem onK32_nat (s b : Nat) (hs : s < 4294967296) (hb : b < 256) : onK .u32 16777619 (s : Int) b = (((s ^^^ b) * 16777619 % 4294967296 : Nat) : Int) := by
  have hw : IntKind.u32.wrap (b : Int) = (b : Int) := by rw [IntKind.wrap_u32]; omega
  unfold onK
  rw [hw, xor32_nat _ _ hs (by omega), IntKind.wrap_u32]
  omega
/-- One step takes different sums, or different bytes, to different sums. -/
theorem step32 {s t b d : Nat} (hs : s < 4294967296) (ht : t < 4294967296) (hb : b < 256) (hd : d < 256) (h : onK .u32 16777619 (s : Int) b = onK .u32 16777619 (t : Int) d) : s ^^^ b = t ^^^ d := by
  rw [onK32_nat s b hs hb, onK32_nat t d ht hd] at h
  exact mul32_inj (Nat.xor_lt_two_pow (n := 32) (by omega) (by omega)) (Nat.xor_lt_two_pow (n := 32) (by omega) (by omega)) (Int.ofNat.inj h)
theorem fnv32_inj : ∀ (xs : List Nat) (s t : Nat), (∀ x ∈ xs, x < 256) → s < 4294967296 → t < 4294967296 → fnv32 s xs = fnv32 t xs → s = t
  | [], s, t, _, _, _, h => by simp [fnv32] at h; omega
  | x :: xs, s, t, hx, hs, ht, h => by
    have h' : fnv32 (onK .u32 16777619 (s : Int) x) xs = fnv32 (onK .u32 16777619 (t : Int) x) xs := h
    have hxb := hx x (by simp)
    have e := step32 hs ht hxb hxb
    rw [onK32_nat s x hs hxb, onK32_nat t x ht hxb] at h' e
    have := fnv32_inj xs _ _ (fun y hy => hx y (by simp [hy])) (Nat.mod_lt _ (by omega)) (Nat.mod_lt _ (by omega)) h'
    exact xor_inj (e (by rw [this]))
theorem fnv32_set : ∀ (xs : List Nat) (k s b x : Nat), (∀ y ∈ xs, y < 256) → s < 4294967296 → xs[k]? = some b → x < 256 → fnv32 s xs = fnv32 s (xs.set k (b ^^^ x)) → x = 0
  | [], k, s, b, x, _, _, hk, _, _ => by simp at hk
  | y :: xs, 0, s, b, x, hx, hs, hk, hx2, h => by
    simp at hk
    subst hk
    have hb := hx y (by simp)
    have hb2 : y ^^^ x < 256 := Nat.xor_lt_two_pow (n := 8) hb hx2
    have h' : fnv32 (onK .u32 16777619 (s : Int) y) xs = fnv32 (onK .u32 16777619 (s : Int) (y ^^^ x)) xs := h
    have e := step32 hs hs hb hb2
    rw [onK32_nat s y hs hb, onK32_nat s _ hs hb2] at h' e
    have := fnv32_inj xs _ _ (fun y hy => hx y (by simp [hy])) (Nat.mod_lt _ (by omega)) (Nat.mod_lt _ (by omega)) h'
    exact xor_self_zero (e (by rw [this]))
  | y :: xs, k + 1, s, b, x, hx, hs, hk, hx2, h => by
    have hb := hx y (by simp)
    have h' : fnv32 (onK .u32 16777619 (s : Int) y) xs = fnv32 (onK .u32 16777619 (s : Int) y) (xs.set k (b ^^^ x)) := h
    rw [onK32_nat s y hs hb] at h'
    exact fnv32_set xs k _ b x (fun y hy => hx y (by simp [hy])) (Nat.mod_lt _ (by omega)) (by simpa using hk) hx2 h'
theorem sum32_set {xs : List Nat} {k b x : Nat} (ha : ∀ y ∈ xs, y < 256) (hk : xs[k]? = some b) (hx : x < 256) : (sum32 xs == sum32 (xs.set k (b ^^^ x))) = decide (x = 0) := by
  by_cases h : x = 0
  · subst h
    have : xs.set k (b ^^^ 0) = xs := by
      rw [Nat.xor_zero]
      obtain ⟨h1, rfl⟩ := List.getElem?_eq_some_iff.1 hk
      exact List.set_getElem_self h1
    rw [this]
    simp
  · rw [decide_eq_false h, beq_eq_false_iff_ne]
    exact fun e => h (fnv32_set xs k 2166136261 b x ha (by omega) hk hx e)
end Go.Proofs.Ytofidiolgjblcaa
