/- The sums and parts of keys, the program's (package hash) and the reference's. -/
import Derived.Test.YtfkhnpkojnnfmaaRd
import Derived.Test.YtfkhnpkojnnfmaaRows
import Derived.Laws.IdiomStrings
import Derived.Laws.Bits64
namespace Go.Proofs.Ytfkhnpkojnnfmaa
open Go Go.RowKit
set_option linter.unusedVariables false
set_option linter.unusedSimpArgs false
/-- A slice of bytes to be read. -/
def RdB (w : World) (A : Option Addr) (xs : List Nat) : Prop :=
  xs.length ≤ 140737488355328 ∧ (∀ (j : Nat) x, xs[j]? = some x → x < 256) ∧ (0 < xs.length → ∃ g o, A = some ⟨g, o, none⟩ ∧ ∀ (j : Nat) (x : Nat), xs[j]? = some x → w.cell? ⟨g, o + j, none⟩ = some (.int .u8 x))
def onK (K : IntKind) (times : Int) (s : Int) (x : Nat) : Int := K.wrap (bits BinOp.xor K s (K.wrap x) * times)
theorem fold_succ {α β : Type} {f : α → β → α} {a : α} {xs : List β} {k : Nat} (h : k < xs.length) : (xs.take (k + 1)).foldl f a = f ((xs.take k).foldl f a) xs[k] := by
  rw [List.take_succ_eq_append_getElem h, List.foldl_append]
  rfl
set_option maxHeartbeats 400000 in
set_option maxRecDepth 100000 in
theorem hash_on64 (A : Option Addr) (xs : List Nat) (c : Nat) (s t : Int) (w : World) (h : RdB w A xs) :
    Calls Try.prog 29 #[.int .u64 s, .int .u64 t, .slice A xs.length c] w fun e w' => e = .returned (.int .u64 (xs.foldl (onK .u64 t) s)) ∧ w' = w := by
  obtain ⟨hl, hb, hr⟩ := h
  have HB := Lib.hid hb
  have HRD := Lib.hid hr
  clear hb hr
  go_enter Try.func29, Try.ntmps29
  go_wp2_with fail
  go_loopw [0, 11] (fun y i wr => ∃ (k : Nat), k ≤ xs.length ∧ y = .int .u64 ((xs.take k).foldl (onK .u64 t) s) ∧ i = .int .i64 k ∧ wr = w) (fun _ i _ => xs.length - (intOf i).toNat)
  case atStart => exact ⟨0, Nat.zero_le _, rfl, rfl, rfl⟩
  case round =>
    obtain ⟨k, hk, rfl, rfl, rfl⟩ := hrel
    by_cases hlt : k < xs.length
    · obtain ⟨g, o, rfl, hc⟩ := HRD.out (by omega)
      obtain ⟨z, hz⟩ : ∃ z, xs[k]? = some z := ⟨_, List.getElem?_eq_getElem hlt⟩
      have hc := hc k z hz
      have hzb := HB.out k z hz
      go_wp2_with fail
      go_roundw
      case rel => exact ⟨k + 1, by omega, by rw [fold_succ hlt]; rfl, by go_num, trivial⟩
      case measure => simp [intOf]; omega
    · obtain rfl : k = xs.length := by omega
      clear hlt
      go_wp2_with fail
      go_ret
      exact ⟨by simp [go_sem], rfl⟩
/-- Going on from a sum of 64 bits; the sums. -/
def fnv (s : Int) (xs : List Nat) : Int := xs.foldl (onK .u64 1099511628211) s
def sum64 (xs : List Nat) : Int := fnv 14695981039346656037 xs
set_option maxHeartbeats 400000 in
theorem hash_on (A : Option Addr) (xs : List Nat) (n c : Nat) (hn : xs.length = n) (s : Int) (w : World) (h : RdB w A xs) :
    Calls Try.prog 27 #[.int .u64 s, .slice A n c] w fun e w' => e = .returned (.int .u64 (fnv s xs)) ∧ w' = w := by
  subst hn
  go_enter Try.func27, Try.ntmps27
  go_wp2_with fail
  refine (hash_on64 A xs c s 1099511628211 w h).mono ?_
  rintro e w' ⟨rfl, rfl⟩
  dsimp only
  go_wp2
  go_ret
  exact ⟨rfl, rfl⟩
set_option maxHeartbeats 400000 in
theorem hash_sum (A : Option Addr) (xs : List Nat) (n c : Nat) (hn : xs.length = n) (w : World) (h : RdB w A xs) :
    Calls Try.prog 25 #[.slice A n c] w fun e w' => e = .returned (.int .u64 (sum64 xs)) ∧ w' = w := by
  go_enter Try.func25, Try.ntmps25
  go_wp2_with fail
  refine (hash_on A xs n c hn 14695981039346656037 w h).mono ?_
  rintro e w' ⟨rfl, rfl⟩
  dsimp only
  go_wp2
  go_ret
  exact ⟨rfl, rfl⟩
theorem u64_lt (x : Int) : 0 ≤ IntKind.u64.wrap x ∧ IntKind.u64.wrap x < 18446744073709551616 := by
  have : IntKind.u64.wrap x = x.emod 18446744073709551616 := by simp [IntKind.wrap, IntKind.bits, IntKind.signed]; rfl
  rw [this]
  exact ⟨Int.emod_nonneg _ (by omega), Int.emod_lt_of_pos _ (by omega)⟩
theorem fnv_lt {s : Int} (h : 0 ≤ s ∧ s < 18446744073709551616) : ∀ xs, 0 ≤ fnv s xs ∧ fnv s xs < 18446744073709551616
  | [] => h
  | x :: xs => fnv_lt (u64_lt _) xs
/-- A key's part. -/
def part (p : Int) (xs : List Nat) : Int := if p < 1 then 0 else sum64 xs % p
def partE (p : Int) : Int := if p < 1 then 2 else 0
theorem part_lt {p : Int} (h : ¬ p < 1) (xs : List Nat) : 0 ≤ part p xs ∧ part p xs < p := by
  unfold part
  rw [if_neg h]
  exact ⟨Int.emod_nonneg _ (by omega), Int.emod_lt_of_pos _ (by omega)⟩
set_option maxHeartbeats 400000 in
set_option maxRecDepth 100000 in
theorem hash_part (p : Int) (hp : p < 9223372036854775808) (A : Option Addr) (xs : List Nat) (n c : Nat) (hn : xs.length = n) (w : World) (h : RdB w A xs) :
    Calls Try.prog 22 #[.int .i64 p, .slice A n c] w fun e w' => e = .returned (.tuple #[.int .i64 (part p xs), .int .i64 (partE p)]) ∧ w' = w := by
  by_cases h1 : p < 1
  · unfold part partE
    rw [if_pos h1, if_pos h1]
    go_enter Try.func22, Try.ntmps22
    go_wp2
    go_ret2
    exact ⟨rfl, rfl⟩
  · have hf : 0 ≤ sum64 xs ∧ sum64 xs < 18446744073709551616 := fnv_lt (s := 14695981039346656037) (by omega) xs
    have hP := part_lt h1 xs
    have hE : part p xs = sum64 xs % p := by unfold part; rw [if_neg h1]
    unfold partE
    rw [if_neg h1]
    go_enter Try.func22, Try.ntmps22
    go_wp2_with fail
    refine (hash_sum A xs n c hn w h).mono ?_
    rintro e w' ⟨rfl, rfl⟩
    dsimp only
    have hu : IntKind.u64.wrap p = p := by simp [IntKind.wrap, IntKind.bits, IntKind.signed]; omega
    have hw : RowKit.wrap64 ((sum64 xs).tmod p) = part p xs := by
      rw [hE] at hP ⊢
      rw [Int.tmod_eq_emod_of_nonneg hf.1]
      obtain ⟨m, hm⟩ : ∃ m, sum64 xs % p = m := ⟨_, rfl⟩
      rw [hm] at hP ⊢
      exact IntWalk.wrap64_in m (by omega)
    have HW := Lib.hid hw
    clear hw hE hP hf
    go_wp2_with fail
    rw [HW.out]
    go_ret2
    exact ⟨rfl, rfl⟩
theorem one_rd (w : World) (e : TypeId) (x : Nat) (h : x < 256) : RdB (w.alloc (.cells #[.int .u8 x] e)) (some ⟨w.heap.size, 0, none⟩) [x] := by
  refine ⟨by simp, fun j y hj => ?_, fun _ => ⟨_, _, rfl, fun j y hj => ?_⟩⟩
  · cases j with
    | succ j => simp at hj
    | zero =>
      simp at hj
      subst hj
      exact h
  · cases j with
    | succ j => simp at hj
    | zero =>
      simp at hj
      subst hj
      exact World.cell?_alloc_mark w #[.int .u8 x] e (0, 0) 0
theorem one_rd' (e : TypeId) (x : Nat) (h : x < 256) (w : World) (g : Nat) (hg : g = w.heap.size) : RdB (w.alloc (.cells #[.int .u8 x] e)) (some ⟨g, 0, none⟩) [x] := hg ▸ one_rd w e x h
theorem RdB.nil (w : World) : RdB w none [] := ⟨by simp, fun j x h => by simp at h, fun h => by simp at h⟩
theorem xor_low (s b : Nat) (hb : b < 256) : s ^^^ b = s - s % 256 + ((s % 256) ^^^ b) := by
  have h1 : (s ^^^ b) / 2 ^ 8 = s / 2 ^ 8 := by
    rw [Nat.xor_div_two_pow, Nat.div_eq_of_lt (show b < 2 ^ 8 by omega)]
    simp
  have h2 : (s ^^^ b) % 2 ^ 8 = (s % 2 ^ 8) ^^^ b := by
    rw [Nat.xor_mod_two_pow, Nat.mod_eq_of_lt (show b < 2 ^ 8 by omega)]
  have h3 := Nat.div_add_mod (s ^^^ b) (2 ^ 8)
  have h4 := Nat.div_add_mod s (2 ^ 8)
  rw [h1, h2] at h3
  simp only [Nat.reducePow] at h3 h4
  omega
theorem out_step (l b k : Nat) : (l ^^^ b) % 2 ^ (k + 1) = (l ^^^ b) % 2 ^ k + (if l / 2 ^ k % 2 = b / 2 ^ k % 2 then 0 else 2 ^ k) := by
  rw [Nat.mod_pow_succ, Nat.xor_div_two_pow]
  have h := Nat.xor_mod_two_pow (a := l / 2 ^ k) (b := b / 2 ^ k) (n := 1)
  simp only [Nat.pow_one] at h
  rw [h]
  rcases Nat.mod_two_eq_zero_or_one (l / 2 ^ k) with h1 | h1 <;> rcases Nat.mod_two_eq_zero_or_one (b / 2 ^ k) with h2 | h2 <;> simp [h1, h2]
theorem xor_all (l b : Nat) (hl : l < 256) (hb : b < 256) : (l ^^^ b) % 2 ^ 8 = l ^^^ b := Nat.mod_eq_of_lt (Nat.xor_lt_two_pow (n := 8) (by omega) (by omega))
theorem onK_ref (s b : Nat) (hs : s < 18446744073709551616) (hb : b < 256) : onK .u64 1099511628211 (s : Int) b = IntKind.u64.wrap (IntKind.u64.wrap (((s - s % 256 + ((s % 256) ^^^ b) : Nat) : Int) * 1099511627776) + IntKind.u64.wrap (((s - s % 256 + ((s % 256) ^^^ b) : Nat) : Int) * 435)) := by
  have hw : IntKind.u64.wrap (b : Int) = (b : Int) := by rw [IntKind.wrap_u64]; omega
  unfold onK
  rw [hw, bits_xor_u64_nat _ _ hs (by omega), xor_low s b hb]
  simp only [IntKind.wrap_u64]
  omega
theorem fnv_succ (s : Int) {xs : List Nat} {k : Nat} (h : k < xs.length) : fnv s (xs.take (k + 1)) = onK .u64 1099511628211 (fnv s (xs.take k)) xs[k] := fold_succ h
set_option maxHeartbeats 2000000 in
set_option maxRecDepth 100000 in
theorem ref_on (A : Option Addr) (xs : List Nat) (n c : Nat) (hn : xs.length = n) (s : Nat) (hs : s < 18446744073709551616) (w : World) (h : RdB w A xs) :
    Calls Try.prog 28 #[.int .u64 s, .slice A n c] w fun e w' => e = .returned (.int .u64 (fnv s xs)) ∧ Below w.heap.size w w' := by
  have hnb : n ≤ 140737488355328 := by have := h.1; omega
  have HN := Lib.hid hn
  have HR := Lib.hid h
  clear h hn
  go_enter Try.func28, Try.ntmps28
  go_wp2_with fail
  go_loopw [0, 5] (fun sv i wr => ∃ (k S : Nat), (k ≤ n ∧ fnv s (xs.take k) = S ∧ S < 18446744073709551616) ∧ sv = .int .u64 S ∧ i = .int .i64 k ∧ Inv w wr []) (fun _ i _ => n - (intOf i).toNat)
  case atStart => exact ⟨0, s, ⟨Nat.zero_le _, rfl, hs⟩, rfl, rfl, Inv.refl w⟩
  case round =>
    obtain ⟨k, S, ⟨hk, hf, hS⟩, rfl, rfl, hI⟩ := hrel
    by_cases hlt : k < n
    · as_aux_lemma =>
      obtain ⟨g, o, rfl, hc⟩ := HR.out.2.2 (by have := HN.out; omega)
      obtain ⟨b, hb⟩ : ∃ z, xs[k]? = some z := ⟨_, List.getElem?_eq_getElem (by have := HN.out; omega)⟩
      have hc := hI.old_cell (hc k b hb)
      have hbb := HR.out.2.1 k b hb
      have hstep : fnv s (xs.take (k + 1)) = IntKind.u64.wrap (IntKind.u64.wrap (((S - S % 256 + ((S % 256) ^^^ b) : Nat) : Int) * 1099511627776) + IntKind.u64.wrap (((S - S % 256 + ((S % 256) ^^^ b) : Nat) : Int) * 435)) := by
        rw [← onK_ref S b hS hbb, ← hf, fnv_succ _ (by have := HN.out; omega), (List.getElem?_eq_some_iff.1 hb).2]
      obtain ⟨l, hl⟩ : ∃ l, S % 256 = l := ⟨_, rfl⟩
      have hl2 : l < 256 := by omega
      have hlS : l ≤ S := by omega
      rw [hl] at hstep
      have HST := Lib.hid hstep
      have HI := Lib.hid hI
      have hlI : (S : Int) % 256 = l := by omega
      have HLI := Lib.hid hl
      clear hstep hI hf hb HR hl
      go_wp2
      go_quiet (fail)
      go_wp2_with fail
      rw [hlI]
      have HI2 := Lib.hid (HI.out.drewN nq)
      obtain ⟨w5, hw5⟩ : ∃ x, wr.drewN nq = x := ⟨_, rfl⟩
      rw [hw5] at HI2 ⊢
      clear hw5 hc
      go_loopw [7, 8, 9, 10, 11] (fun xv yv ov pv kv wq => ∃ (j X Y O P : Nat), (j ≤ 8 ∧ l / 2 ^ j = X ∧ b / 2 ^ j = Y ∧ (l ^^^ b) % 2 ^ j = O ∧ 2 ^ j = P) ∧ xv = .int .u64 X ∧ yv = .int .u64 Y ∧ ov = .int .u64 O ∧ pv = .int .u64 P ∧ kv = .int .i64 j ∧ wq = w5) (fun _ _ _ _ kv _ => 8 - (intOf kv).toNat)
      case atStart => exact ⟨0, l, b, 0, 1, ⟨by omega, by simp, by simp, by simp [Nat.mod_one], by simp⟩, rfl, rfl, rfl, rfl, rfl, rfl⟩
      case round =>
        obtain ⟨j, X, Y, O, P, ⟨hj, hX, hY, hO, hP⟩, rfl, rfl, rfl, rfl, rfl, rfl⟩ := hrel
        by_cases hj8 : j < 8
        · have hXb : X < 256 := by rw [← hX]; exact Nat.lt_of_le_of_lt (Nat.div_le_self _ _) hl2
          have hYb : Y < 256 := by rw [← hY]; exact Nat.lt_of_le_of_lt (Nat.div_le_self _ _) hbb
          have hPb : P ≤ 128 := by rw [← hP]; exact Nat.pow_le_pow_right (n := 2) (by omega) (show j ≤ 7 by omega)
          have hP0 : 0 < P := by rw [← hP]; exact Nat.pow_pos (by omega)
          have hOb : O < P := by rw [← hO, ← hP]; exact Nat.mod_lt _ (Nat.pow_pos (by omega))
          have nX : l / 2 ^ (j + 1) = X / 2 := by rw [← hX, Nat.div_div_eq_div_mul, Nat.pow_succ]
          have nY : b / 2 ^ (j + 1) = Y / 2 := by rw [← hY, Nat.div_div_eq_div_mul, Nat.pow_succ]
          have nO := out_step l b j
          rw [hX, hY, hO, hP] at nO
          have nP : 2 ^ (j + 1) = 2 * P := by rw [← hP, Nat.pow_succ, Nat.mul_comm]
          have NX := Lib.hid nX
          have NY := Lib.hid nY
          have NP := Lib.hid nP
          by_cases hd : X % 2 = Y % 2
          · rw [if_pos hd] at nO
            have NO := Lib.hid nO
            clear nX nY nO nP hX hY hO hP
            have hdI : (X : Int) % 2 = (Y : Int) % 2 := by omega
            as_aux_lemma =>
            go_wp2
            go_roundw
            case rel => exact ⟨j + 1, X / 2, Y / 2, O, 2 * P, ⟨by omega, NX.out, NY.out, NO.out, NP.out⟩, by go_num, by go_num, rfl, by go_num, by go_num, trivial⟩
            case measure => simp [intOf]; omega
          · rw [if_neg hd] at nO
            have NO := Lib.hid nO
            clear nX nY nO nP hX hY hO hP
            have hdI : ¬ (X : Int) % 2 = (Y : Int) % 2 := by omega
            as_aux_lemma =>
            go_wp2
            go_roundw
            case rel => exact ⟨j + 1, X / 2, Y / 2, O + P, 2 * P, ⟨by omega, NX.out, NY.out, NO.out, NP.out⟩, by go_num, by go_num, by go_num, by go_num, by go_num, trivial⟩
            case measure => simp [intOf]; omega
        · obtain rfl : j = 8 := by omega
          rw [xor_all l b hl2 hbb] at hO
          have HST' := Lib.hid (show fnv s (xs.take (k + 1)) = IntKind.u64.wrap (IntKind.u64.wrap (((S - l + O : Nat) : Int) * 1099511627776) + IntKind.u64.wrap (((S - l + O : Nat) : Int) * 435)) by rw [HST.out, hO])
          have hO2 : O < 256 := by rw [← hO]; exact Nat.xor_lt_two_pow (n := 8) (by omega) (by omega)
          have hT : S - l + O < 18446744073709551616 := by
            have := Nat.div_add_mod S 256
            omega
          have hTI : ((S - l + O : Nat) : Int) = (S : Int) - l + O := by omega
          have h3 := HST'.out
          rw [hTI] at h3
          obtain ⟨T, hTT⟩ : ∃ T : Nat, IntKind.u64.wrap (IntKind.u64.wrap (((S : Int) - l + O) * 1099511627776) + IntKind.u64.wrap (((S : Int) - l + O) * 435)) = T := ⟨(IntKind.u64.wrap _).toNat, (Int.toNat_of_nonneg (u64_lt _).1).symm⟩
          have hTb : T < 18446744073709551616 := by
            have := (u64_lt (IntKind.u64.wrap (((S : Int) - l + O) * 1099511627776) + IntKind.u64.wrap (((S : Int) - l + O) * 435))).2
            omega
          have H3 := Lib.hid (h3.trans hTT)
          have HTT := Lib.hid hTT
          have HTB := Lib.hid hTb
          clear hX hY hO hP h3 hTT hTb hTI
          as_aux_lemma =>
          go_wp2
          go_roundw
          case rel => exact ⟨k + 1, T, ⟨by omega, H3.out, HTB.out⟩, by rw [HTT.out], by go_num, HI2.out⟩
          case measure => simp [intOf]; omega
    · obtain rfl : k = n := by omega
      have hx : xs.take k = xs := List.take_of_length_le (by rw [HN.out]; exact Nat.le_refl _)
      rw [hx] at hf
      have HF := Lib.hid hf
      have HI := Lib.hid hI
      clear hI hf hx hlt
      go_wp2
      go_ret
      exact ⟨by rw [HF.out]; rfl, HI.out.below⟩
theorem ref_sum (A : Option Addr) (xs : List Nat) (n c : Nat) (hn : xs.length = n) (w : World) (h : RdB w A xs) :
    Calls Try.prog 26 #[.slice A n c] w fun e w' => e = .returned (.int .u64 (sum64 xs)) ∧ Below w.heap.size w w' := by
  go_enter Try.func26, Try.ntmps26
  go_wp2_with fail
  refine (ref_on A xs n c hn 14695981039346656037 (by omega) w h).mono ?_
  rintro e w' ⟨rfl, hb⟩
  have HB := Lib.hid hb
  clear hb
  dsimp only
  go_wp2
  go_ret
  exact ⟨rfl, HB.out⟩
set_option maxHeartbeats 400000 in
set_option maxRecDepth 100000 in
theorem ref_part (p : Int) (hp : p < 9223372036854775808) (A : Option Addr) (xs : List Nat) (n c : Nat) (hn : xs.length = n) (w : World) (h : RdB w A xs) :
    Calls Try.prog 23 #[.int .i64 p, .slice A n c] w fun e w' => e = .returned (.tuple #[.int .i64 (part p xs), .int .i64 (partE p)]) ∧ Below w.heap.size w w' := by
  by_cases h1 : p < 1
  · unfold part partE
    rw [if_pos h1, if_pos h1]
    go_enter Try.func23, Try.ntmps23
    go_wp2
    go_ret2
    exact ⟨rfl, (Inv.refl w).below⟩
  · have hf : 0 ≤ sum64 xs ∧ sum64 xs < 18446744073709551616 := fnv_lt (s := 14695981039346656037) (by omega) xs
    have hP := part_lt h1 xs
    have hE : part p xs = sum64 xs % p := by unfold part; rw [if_neg h1]
    unfold partE
    rw [if_neg h1]
    go_enter Try.func23, Try.ntmps23
    go_wp2_with fail
    refine (ref_sum A xs n c hn w h).mono ?_
    rintro e w' ⟨rfl, hb⟩
    have HB := Lib.hid hb
    clear hb
    dsimp only
    have hu : IntKind.u64.wrap p = p := by simp [IntKind.wrap, IntKind.bits, IntKind.signed]; omega
    have hw : RowKit.wrap64 ((sum64 xs).tmod p) = part p xs := by
      rw [hE] at hP ⊢
      rw [Int.tmod_eq_emod_of_nonneg hf.1]
      obtain ⟨m, hm⟩ : ∃ m, sum64 xs % p = m := ⟨_, rfl⟩
      rw [hm] at hP ⊢
      exact IntWalk.wrap64_in m (by omega)
    have HW := Lib.hid hw
    clear hw hE hP hf
    go_wp2_with fail
    rw [HW.out]
    go_ret2
    exact ⟨rfl, HB.out⟩
def byts (xs : List Nat) : List Value := xs.map fun (x : Nat) => Value.int .u8 (x : Int)
theorem byts_len (xs : List Nat) : (byts xs).length = xs.length := by simp [byts]
theorem byts_one (l : List Nat) : ∀ u ∈ byts l, u.oneCell' = true := by
  intro u hu
  simp [byts] at hu
  obtain ⟨x, _, rfl⟩ := hu
  rfl
theorem RdB.rd {w : World} {A : Option Addr} {xs : List Nat} (h : RdB w A xs) : Rd w 1 A xs.length (byts xs) :=
  ⟨by simp [byts], fun h0 => by
    obtain ⟨g, o, rfl, hc⟩ := h.2.2 (by omega)
    exact ⟨_, rfl, fun j u hj => by
      simp only [byts, List.getElem?_map, Option.map_eq_some_iff] at hj
      obtain ⟨x, hx, rfl⟩ := hj
      have : (⟨g, o, none⟩ : Addr).add j = ⟨g, o + j, none⟩ := by unfold Addr.add; split <;> simp_all
      rw [this]
      exact hc j x hx⟩⟩
theorem RdB.of {w w' : World} {A : Option Addr} {xs : List Nat} (h : RdB w A xs) (hb : Below w.heap.size w w') : RdB w' A xs :=
  ⟨h.1, h.2.1, fun h0 => by obtain ⟨g, o, e, hc⟩ := h.2.2 h0; exact ⟨g, o, e, fun j x hj => (hb.cell (World.block_lt_of_cell? _ _ (hc j x hj))).trans (hc j x hj)⟩⟩
theorem RdB.old {W w : World} {Rs : List Asn} {A : Option Addr} {xs : List Nat} (h : RdB W A xs) (hI : Inv W w Rs) : RdB w A xs := h.of hI.below
theorem row_rdb {W w : World} {Rs : List Asn} {A : Option Addr} {n c : Nat} {xs : List Nat} {e : TypeId} (h : Inv W w (RowA e 1 A n c (byts xs) :: Rs)) (hl : xs.length ≤ 140737488355328) (hb : ∀ (j : Nat) x, xs[j]? = some x → x < 256) : RdB w A xs := by
  refine ⟨hl, hb, fun h0 => ?_⟩
  have hn := (row_len h).1
  simp [byts] at hn
  obtain ⟨g, rfl, hc, _⟩ := row_at h (by omega)
  exact ⟨g, 0, rfl, fun j x hj => by rw [Nat.zero_add]; exact hc j _ (by simp [byts, hj])⟩
end Go.Proofs.Ytfkhnpkojnnfmaa
