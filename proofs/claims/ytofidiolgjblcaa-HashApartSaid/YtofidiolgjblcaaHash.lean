/- The sums of the program (package hash). -/
import Derived.Test.YtofidiolgjblcaaSp
import Derived.Test.YtofidiolgjblcaaRows
import Derived.Laws.IdiomStrings
namespace Go.Proofs.Ytofidiolgjblcaa
open Go Go.RowKit
set_option linter.unusedVariables false
set_option linter.unusedSimpArgs false

/-- It returned v; nothing that was there has turned. -/
def RetB (w : World) (v : Value) (e : Ending) (w' : World) : Prop := e = .returned v ∧ Below w.heap.size w w'
/-- A slice of bytes to be read. -/
def RdB (w : World) (A : Option Addr) (xs : List Nat) : Prop :=
  xs.length ≤ 140737488355328 ∧ (∀ (j : Nat) x, xs[j]? = some x → x < 256) ∧ (0 < xs.length → ∃ g o, A = some ⟨g, o, none⟩ ∧ ∀ (j : Nat) (x : Nat), xs[j]? = some x → w.cell? ⟨g, o + j, none⟩ = some (.int .u8 x))

def onK (K : IntKind) (times : Int) (s : Int) (x : Nat) : Int := K.wrap (bits BinOp.xor K s (K.wrap x) * times)
theorem fold_succ {α β : Type} {f : α → β → α} {a : α} {xs : List β} {k : Nat} (h : k < xs.length) : (xs.take (k + 1)).foldl f a = f ((xs.take k).foldl f a) xs[k] := by
  rw [List.take_succ_eq_append_getElem h, List.foldl_append]
  rfl

set_option maxHeartbeats 400000 in
set_option maxRecDepth 100000 in
theorem hash_on64 (A : Option Addr) (xs : List Nat) (c : Nat) (s t : Int) (w : World) (h : RdB w A xs) :
    Calls Try.prog 22 #[.int .u64 s, .int .u64 t, .slice A xs.length c] w fun e w' => e = .returned (.int .u64 (xs.foldl (onK .u64 t) s)) ∧ w' = w := by
  obtain ⟨hl, hb, hr⟩ := h
  have HB := Lib.hid hb
  have HRD := Lib.hid hr
  clear hb hr
  go_enter Try.func22, Try.ntmps22
  go_wp2_with fail
  go_loopw [0, 11] (fun y i wr => ∃ (k : Nat), k ≤ xs.length ∧ y = .int .u64 ((xs.take k).foldl (onK .u64 t) s) ∧ i = .int .i64 k ∧ wr = w) (fun _ i _ => xs.length - (intOf i).toNat)
  case atStart => exact ⟨0, Nat.zero_le _, rfl, rfl, rfl⟩
  case round =>
    obtain ⟨k, hk, rfl, rfl, rfl⟩ := hrel
    by_cases hlt : k < xs.length
    · obtain ⟨g, o, rfl, hc⟩ := HRD.out (by omega)
      obtain ⟨z, hz⟩ : ∃ z, xs[k]? = some z := ⟨_, List.getElem?_eq_getElem hlt⟩
      have hc := hc k z hz
      have hzb := HB.out k z hz
      go_wp2_with fail
      go_roundw
      case rel => exact ⟨k + 1, by omega, by rw [fold_succ hlt]; rfl, by go_num, trivial⟩
      case measure => simp [intOf]; omega
    · obtain rfl : k = xs.length := by omega
      clear hlt
      go_wp2_with fail
      go_ret
      exact ⟨by simp [go_sem], rfl⟩
set_option maxHeartbeats 400000 in
set_option maxRecDepth 100000 in
theorem hash_on32 (A : Option Addr) (xs : List Nat) (c : Nat) (s t : Int) (w : World) (h : RdB w A xs) :
    Calls Try.prog 23 #[.int .u32 s, .int .u32 t, .slice A xs.length c] w fun e w' => e = .returned (.int .u32 (xs.foldl (onK .u32 t) s)) ∧ w' = w := by
  obtain ⟨hl, hb, hr⟩ := h
  have HB := Lib.hid hb
  have HRD := Lib.hid hr
  clear hb hr
  go_enter Try.func23, Try.ntmps23
  go_wp2_with fail
  go_loopw [0, 11] (fun y i wr => ∃ (k : Nat), k ≤ xs.length ∧ y = .int .u32 ((xs.take k).foldl (onK .u32 t) s) ∧ i = .int .i64 k ∧ wr = w) (fun _ i _ => xs.length - (intOf i).toNat)
  case atStart => exact ⟨0, Nat.zero_le _, rfl, rfl, rfl⟩
  case round =>
    obtain ⟨k, hk, rfl, rfl, rfl⟩ := hrel
    by_cases hlt : k < xs.length
    · obtain ⟨g, o, rfl, hc⟩ := HRD.out (by omega)
      obtain ⟨z, hz⟩ : ∃ z, xs[k]? = some z := ⟨_, List.getElem?_eq_getElem hlt⟩
      have hc := hc k z hz
      have hzb := HB.out k z hz
      go_wp2_with fail
      go_roundw
      case rel => exact ⟨k + 1, by omega, by rw [fold_succ hlt]; rfl, by go_num, trivial⟩
      case measure => simp [intOf]; omega
    · obtain rfl : k = xs.length := by omega
      clear hlt
      go_wp2_with fail
      go_ret
      exact ⟨by simp [go_sem], rfl⟩
/-- Going on from a sum of 64 bits; the sums. -/
def fnv (s : Int) (xs : List Nat) : Int := xs.foldl (onK .u64 1099511628211) s
def sum64 (xs : List Nat) : Int := fnv 14695981039346656037 xs
def sum32 (xs : List Nat) : Int := xs.foldl (onK .u32 16777619) 2166136261
set_option maxHeartbeats 400000 in
theorem hash_on (A : Option Addr) (xs : List Nat) (n c : Nat) (hn : xs.length = n) (s : Int) (w : World) (h : RdB w A xs) :
    Calls Try.prog 10 #[.int .u64 s, .slice A n c] w fun e w' => e = .returned (.int .u64 (fnv s xs)) ∧ w' = w := by
  subst hn
  go_enter Try.func10, Try.ntmps10
  go_wp2_with fail
  refine (hash_on64 A xs c s 1099511628211 w h).mono ?_
  rintro e w' ⟨rfl, rfl⟩
  dsimp only
  go_wp2
  go_ret
  exact ⟨rfl, rfl⟩
set_option maxHeartbeats 400000 in
theorem hash_sum (A : Option Addr) (xs : List Nat) (n c : Nat) (hn : xs.length = n) (w : World) (h : RdB w A xs) :
    Calls Try.prog 12 #[.slice A n c] w fun e w' => e = .returned (.int .u64 (sum64 xs)) ∧ w' = w := by
  go_enter Try.func12, Try.ntmps12
  go_wp2_with fail
  refine (hash_on A xs n c hn 14695981039346656037 w h).mono ?_
  rintro e w' ⟨rfl, rfl⟩
  dsimp only
  go_wp2
  go_ret
  exact ⟨rfl, rfl⟩
set_option maxHeartbeats 400000 in
theorem hash_small (A : Option Addr) (xs : List Nat) (n c : Nat) (hn : xs.length = n) (w : World) (h : RdB w A xs) :
    Calls Try.prog 14 #[.slice A n c] w fun e w' => e = .returned (.int .u32 (sum32 xs)) ∧ w' = w := by
  subst hn
  go_enter Try.func14, Try.ntmps14
  go_wp2_with fail
  refine (hash_on32 A xs c 2166136261 16777619 w h).mono ?_
  rintro e w' ⟨rfl, rfl⟩
  dsimp only
  go_wp2
  go_ret
  exact ⟨rfl, rfl⟩
theorem u64_lt (x : Int) : 0 ≤ IntKind.u64.wrap x ∧ IntKind.u64.wrap x < 18446744073709551616 := by
  have : IntKind.u64.wrap x = x.emod 18446744073709551616 := by simp [IntKind.wrap, IntKind.bits, IntKind.signed]; rfl
  rw [this]
  exact ⟨Int.emod_nonneg _ (by omega), Int.emod_lt_of_pos _ (by omega)⟩
theorem fnv_lt {s : Int} (h : 0 ≤ s ∧ s < 18446744073709551616) : ∀ xs, 0 ≤ fnv s xs ∧ fnv s xs < 18446744073709551616
  | [] => h
  | x :: xs => fnv_lt (u64_lt _) xs
/-- A key's part. -/
def part (p : Int) (xs : List Nat) : Int := if p < 1 then 0 else sum64 xs % p
def partE (p : Int) : Int := if p < 1 then 2 else 0
theorem part_lt {p : Int} (h : ¬ p < 1) (xs : List Nat) : 0 ≤ part p xs ∧ part p xs < p := by
  unfold part
  rw [if_neg h]
  exact ⟨Int.emod_nonneg _ (by omega), Int.emod_lt_of_pos _ (by omega)⟩
set_option maxHeartbeats 400000 in
set_option maxRecDepth 100000 in
theorem hash_part (p : Int) (hp : p < 9223372036854775808) (A : Option Addr) (xs : List Nat) (n c : Nat) (hn : xs.length = n) (w : World) (h : RdB w A xs) :
    Calls Try.prog 19 #[.int .i64 p, .slice A n c] w fun e w' => e = .returned (.tuple #[.int .i64 (part p xs), .int .i64 (partE p)]) ∧ w' = w := by
  by_cases h1 : p < 1
  · unfold part partE
    rw [if_pos h1, if_pos h1]
    go_enter Try.func19, Try.ntmps19
    go_wp2
    go_ret2
    exact ⟨rfl, rfl⟩
  · have hf : 0 ≤ sum64 xs ∧ sum64 xs < 18446744073709551616 := fnv_lt (s := 14695981039346656037) (by omega) xs
    have hP := part_lt h1 xs
    have hE : part p xs = sum64 xs % p := by unfold part; rw [if_neg h1]
    unfold partE
    rw [if_neg h1]
    go_enter Try.func19, Try.ntmps19
    go_wp2_with fail
    refine (hash_sum A xs n c hn w h).mono ?_
    rintro e w' ⟨rfl, rfl⟩
    dsimp only
    have hu : IntKind.u64.wrap p = p := by simp [IntKind.wrap, IntKind.bits, IntKind.signed]; omega
    have hw : RowKit.wrap64 ((sum64 xs).tmod p) = part p xs := by
      rw [hE] at hP ⊢
      rw [Int.tmod_eq_emod_of_nonneg hf.1]
      obtain ⟨m, hm⟩ : ∃ m, sum64 xs % p = m := ⟨_, rfl⟩
      rw [hm] at hP ⊢
      exact IntWalk.wrap64_in m (by omega)
    have HW := Lib.hid hw
    clear hw hE hP hf
    go_wp2_with fail
    rw [HW.out]
    go_ret2
    exact ⟨rfl, rfl⟩
set_option maxHeartbeats 400000 in
theorem few_any (A : Option Addr) (n c : Nat) (hn : n ≤ c) (hc : c ≤ maxLen) (w : World) :
    Calls Try.prog 8 #[.slice A n c] w fun e w' => e = .returned (.slice A (min n 300) c) ∧ w' = w := by
  unfold maxLen at hc
  go_enter Try.func8, Try.ntmps8
  go_wp2_with fail
  all_goals
    go_ret
    refine ⟨?_, rfl⟩
    first | rw [Nat.min_eq_left (by omega)] | rw [Nat.min_eq_right (by omega)]
    rfl
/-- A text's bytes. -/
def bl (t : ByteArray) : List Nat := t.data.toList.map (·.toNat)
theorem bl_len (t : ByteArray) : (bl t).length = t.size := by simp [bl]
theorem bl_rd (w : World) (t : ByteArray) (hs : t.size ≤ 140737488355328) (cap : Nat) (e : TypeId) (fr : Nat × Nat) : RdB (w.drew.alloc (.cells (bytesRow t cap) e fr)) (some ⟨w.heap.size, 0, none⟩) (bl t) := by
  refine ⟨by rw [bl_len]; exact hs, fun j x hj => ?_, fun _ => ⟨_, _, rfl, fun j x hj => ?_⟩⟩
  all_goals
    simp only [bl, List.getElem?_map, Option.map_eq_some_iff, Array.getElem?_toList] at hj
    obtain ⟨b, hb, rfl⟩ := hj
  · exact b.toNat_lt
  · have h1 := World.cell?_alloc_mark w.drew (bytesRow t cap) e fr (0 + j)
    refine h1.trans ?_
    rw [Nat.zero_add]
    obtain ⟨hlt, rfl⟩ := Array.getElem?_eq_some_iff.1 hb
    exact bytesRow_at t cap j hlt
set_option maxHeartbeats 400000 in
theorem hash_text (t : ByteArray) (hs : t.size ≤ 140737488355328) (w : World) :
    Calls Try.prog 16 #[.string t] w fun e w' => e = .returned (.int .u64 (sum64 (bl t))) ∧ Below w.heap.size w w' := by
  have hcv := fun w => run_bytes_of_string (P := Try.prog) w 9 23 5 t Try.underlying9 Try.underlying23 Try.underlying5
  go_enter Try.func16, Try.ntmps16
  go_wp2_with fail
  refine (hash_sum _ (bl t) _ _ (bl_len t) _ (bl_rd _ t hs _ _ _)).mono ?_
  rintro e w' ⟨rfl, rfl⟩
  dsimp only
  go_wp2
  go_ret
  exact ⟨rfl, (Inv.refl w).drew.alloc _ |>.below⟩
theorem one_rd (w : World) (e : TypeId) (x : Nat) (h : x < 256) : RdB (w.alloc (.cells #[.int .u8 x] e)) (some ⟨w.heap.size, 0, none⟩) [x] := by
  refine ⟨by simp, fun j y hj => ?_, fun _ => ⟨_, _, rfl, fun j y hj => ?_⟩⟩
  · cases j with
    | succ j => simp at hj
    | zero =>
      simp at hj
      subst hj
      exact h
  · cases j with
    | succ j => simp at hj
    | zero =>
      simp at hj
      subst hj
      exact World.cell?_alloc_mark w #[.int .u8 x] e (0, 0) 0
theorem one_rd' (e : TypeId) (x : Nat) (h : x < 256) (w : World) (g : Nat) (hg : g = w.heap.size) : RdB (w.alloc (.cells #[.int .u8 x] e)) (some ⟨g, 0, none⟩) [x] := hg ▸ one_rd w e x h
theorem RdB.nil (w : World) : RdB w none [] := ⟨by simp, fun j x h => by simp at h, fun h => by simp at h⟩
set_option maxHeartbeats 1000000 in
set_option maxRecDepth 100000 in
theorem works03 (w : World) :
    Calls Try.prog 18 #[] w fun e w' => e = .returned (.bool true) ∧ Below w.heap.size w w' := by
  have e1 : part 4 [97] = 0 := by decide +kernel
  have e2 : sum64 [] = 14695981039346656037 := by decide +kernel
  have e3 : sum32 [97] = 3826002220 := by decide +kernel
  have e4 : sum64 (bl ⟨#[97]⟩) = sum64 [97] := by decide +kernel
  have e5 : partE 4 = 0 := by decide +kernel
  obtain ⟨z, hz⟩ : ∃ z, sum64 [97] = z := ⟨_, rfl⟩
  rw [hz] at e4
  have E1 := Lib.hid e1
  have E2 := Lib.hid e2
  have E3 := Lib.hid e3
  have E4 := Lib.hid e4
  have E5 := Lib.hid e5
  have HZ := Lib.hid hz
  clear e1 e2 e3 e4 e5 hz
  have HR := Lib.hid (one_rd' 5 97 (by omega))
  go_enter Try.func18, Try.ntmps18
  go_wp2_with fail
  refine (hash_part 4 (by omega) _ [97] 1 _ rfl _ (HR.out _ _ (by simp))).mono ?_
  rintro e w' ⟨rfl, rfl⟩
  rw [E1.out, E5.out]
  dsimp only
  go_wp2_with fail
  refine (hash_sum _ [] 0 _ rfl _ (RdB.nil _)).mono ?_
  rintro e w' ⟨rfl, rfl⟩
  rw [E2.out]
  dsimp only
  go_wp2_with fail
  refine (hash_small _ [97] 1 _ rfl _ (HR.out _ _ (by simp))).mono ?_
  rintro e w' ⟨rfl, rfl⟩
  rw [E3.out]
  dsimp only
  go_wp2_with fail
  refine (hash_text ⟨#[97]⟩ (by decide) _).mono ?_
  rintro e w1 ⟨rfl, hb⟩
  rw [E4.out]
  dsimp only
  have HB := Lib.hid ((((Inv.refl w).alloc _).alloc _).grow hb)
  clear hb
  go_wp2_with fail
  refine (hash_sum _ [97] 1 _ rfl _ (HR.out _ _ (by simp))).mono ?_
  rintro e w' ⟨rfl, rfl⟩
  rw [HZ.out]
  dsimp only
  have hzz : (z == z) = true := by simp
  go_wp2
  go_ret
  exact ⟨rfl, (HB.out.alloc _).below⟩
end Go.Proofs.Ytofidiolgjblcaa
