/- HashPieces: going on by pieces is as at once; for every bytes and cuts. -/
import Derived.Test.YtofidiolgjblcaaHash
import Derived.Test.YtofidiolgjblcaaOpen
import Derived.Test.YtofidiolgjblcaaAmong
namespace Go.Proofs.Ytofidiolgjblcaa
open Go Go.RowKit
set_option linter.unusedVariables false
set_option linter.unusedSimpArgs false

/-- The bytes that came in, as they are read, cut as few cuts them. -/
def few300 (zs : List Int) : List Nat := (zs.map Int.toNat).take 300
theorem few300_len (zs : List Int) {n : Nat} (h : zs.length = n) : (few300 zs).length = min n 300 := by
  simp [few300, h]; omega
theorem few300_rd {w : World} {A : Option Addr} {zs : List Int} (h : InI .u8 w A zs) : RdB w A (few300 zs) := by
  have key : ∀ (j : Nat) x, (few300 zs)[j]? = some x → ∃ z, zs[j]? = some z ∧ z.toNat = x := fun j x hj => by
    simp only [few300, List.getElem?_take, List.getElem?_map] at hj
    split at hj
    · simpa using hj
    · cases hj
  have hb : ∀ z : Int, (Lit.int .u8 z).wf = true → 0 ≤ z ∧ z < 256 := fun z hz => by
    have := hz
    simp [Lit.wf, IntKind.min, IntKind.max, IntKind.bits, IntKind.signed] at this
    omega
  have hne : 0 < (few300 zs).length → 0 < zs.length := fun h0 => by simp [few300] at h0; omega
  refine ⟨by rw [few300_len zs rfl]; omega, fun j x hj => ?_, fun h0 => ?_⟩
  · obtain ⟨z, hz, rfl⟩ := key j x hj
    obtain ⟨g, o, _, hc⟩ := h (by have := (List.getElem?_eq_some_iff.1 hz).1; omega)
    have := hb z (hc j z hz).2
    omega
  · obtain ⟨g, o, rfl, hc⟩ := h (hne h0)
    refine ⟨g, o, rfl, fun j x hj => ?_⟩
    obtain ⟨z, hz, rfl⟩ := key j x hj
    have := hb z (hc j z hz).2
    rw [(hc j z hz).1, Int.toNat_of_nonneg this.1]
theorem RdB.of {w w' : World} {A : Option Addr} {xs : List Nat} (h : RdB w A xs) (hb : Below w.heap.size w w') : RdB w' A xs :=
  ⟨h.1, h.2.1, fun h0 => by obtain ⟨g, o, e, hc⟩ := h.2.2 h0; exact ⟨g, o, e, fun j x hj => (hb.cell (World.block_lt_of_cell? _ _ (hc j x hj))).trans (hc j x hj)⟩⟩
theorem RdB.zero (w : World) (A : Option Addr) : RdB w A [] := ⟨by simp, fun j x h => by simp at h, fun h => by simp at h⟩
theorem RdB.part {w : World} {g o : Nat} {xs : List Nat} (h : RdB w (some ⟨g, o, none⟩) xs) (i k : Nat) : RdB w (some ⟨g, o + i, none⟩) ((xs.take k).drop i) := by
  have hj : ∀ (j : Nat) x, ((xs.take k).drop i)[j]? = some x → xs[i + j]? = some x := fun j x hj => by
    rw [List.getElem?_drop, List.getElem?_take] at hj
    split at hj
    · exact hj
    · cases hj
  refine ⟨by have := h.1; simp; omega, fun j x hx => h.2.1 _ _ (hj j x hx), fun h0 => ⟨g, o + i, rfl, fun j x hx => ?_⟩⟩
  obtain ⟨g', o', e, hc⟩ := h.2.2 (by have : 0 < ((xs.take k).drop i).length := h0; simp at this; omega)
  cases e
  rw [Nat.add_assoc]
  exact hc _ _ (hj j x hx)
theorem RdB.sub {w : World} {A : Option Addr} {xs : List Nat} (h : RdB w A xs) (i k : Nat) : RdB w (A.map fun x => x.add i) ((xs.take k).drop i) := by
  by_cases h0 : 0 < xs.length
  · obtain ⟨g, o, rfl, _⟩ := h.2.2 h0
    have : (⟨g, o, none⟩ : Addr).add i = ⟨g, o + i, none⟩ := addr_add g o i
    rw [Option.map_some, this]
    exact h.part i k
  · obtain rfl : xs = [] := List.eq_nil_of_length_eq_zero (by omega)
    simp only [List.take_nil, List.drop_nil]
    exact RdB.zero _ _
theorem RdB.none_left {w : World} (A : Option Addr) {xs : List Nat} {i k : Nat} (h : k ≤ i) : RdB w A ((xs.take k).drop i) := by
  rw [List.drop_eq_nil_of_le (by simp; omega)]
  exact RdB.zero _ _
theorem part_len {xs : List Nat} {i k n : Nat} (h : xs.length = n) (hk : k ≤ n) : ((xs.take k).drop i).length = k - i := by simp; omega
theorem fnv_app (s : Int) (xs ys : List Nat) : fnv s (xs ++ ys) = fnv (fnv s xs) ys := by simp [fnv]
theorem fnv_part (s : Int) (xs : List Nat) {i k : Nat} (h : i ≤ k) : fnv (fnv s (xs.take i)) ((xs.take k).drop i) = fnv s (xs.take k) := by
  rw [← fnv_app]
  congr 1
  have : xs.take i = (xs.take k).take i := by rw [List.take_take, Nat.min_eq_left h]
  rw [this, List.take_append_drop]

set_option maxHeartbeats 1000000 in
set_option maxRecDepth 100000 in
theorem hashPieces_walk (A : Option Addr) (len cap : Nat) (zs : List Int) (B : Option Addr) (len2 cap2 : Nat) (ys : List Int) (w : World) (hz : zs.length = len ∧ len ≤ cap ∧ cap ≤ maxLen ∧ len * 1 ≤ 140737488351232 ∧ InI .u8 w A zs) (hy : ys.length = len2 ∧ len2 ≤ cap2 ∧ cap2 ≤ maxLen ∧ len2 * 8 ≤ 140737488351232 ∧ InI .i64 w B ys) :
    Calls Try.prog 5 #[.slice A len cap, .slice B len2 cap2] w (RetB w (.bool true)) := by
  obtain ⟨hlen, hlc, hcm, hby, hin⟩ := hz
  obtain ⟨hlen2, _, _, hby2, hin2⟩ := hy
  have hb2 : len2 ≤ 17592186043904 := by omega
  have hrd := few300_rd hin
  have hfl := few300_len zs hlen
  obtain ⟨xs, hxs⟩ : ∃ xs, few300 zs = xs := ⟨_, rfl⟩
  rw [hxs] at hrd hfl
  obtain ⟨n, hn⟩ : ∃ n, min len 300 = n := ⟨_, rfl⟩
  rw [hn] at hfl
  have hn3 : n ≤ 300 := by omega
  have hnc : n ≤ cap := by omega
  unfold maxLen at hcm
  have HN := Lib.hid hn
  have HFL := Lib.hid hfl
  have HRD := Lib.hid hrd
  have HL := Lib.hid hlen2
  have HIN := Lib.hid hin2
  have HLC := Lib.hid hlc
  clear hlen hlen2 hin hin2 hrd hfl hxs hn hby hby2 hlc
  go_enter Try.func5, Try.ntmps5
  go_wp2_with fail
  refine (works03 w).mono ?_
  rintro e w1 ⟨rfl, hb1⟩
  dsimp only
  have HI := Lib.hid ((Inv.refl w).grow hb1)
  have HR1 := Lib.hid (HRD.out.of hb1)
  clear hb1
  go_wp2_with fail
  refine (few_any A len cap HLC.out hcm _).mono ?_
  rintro e w1 ⟨rfl, rfl⟩
  rw [HN.out]
  dsimp only
  go_wp2_with fail
  refine (hash_sum none [] 0 _ rfl _ (RdB.nil _)).mono ?_
  rintro e w1 ⟨rfl, rfl⟩
  dsimp only
  go_wp2_with fail
  go_loopw [5, 6, 7] (fun s d i wr => ∃ (k m : Nat), (k ≤ len2 ∧ m ≤ n) ∧ s = .int .u64 (fnv 14695981039346656037 (xs.take m)) ∧ d = .int .i64 m ∧ i = .int .i64 k ∧ wr = w1) (fun _ _ i _ => len2 - (intOf i).toNat)
  case atStart => exact ⟨0, 0, ⟨Nat.zero_le _, Nat.zero_le _⟩, rfl, rfl, rfl, rfl⟩
  case round =>
    obtain ⟨k, m, ⟨hk, hm⟩, rfl, rfl, rfl, rfl⟩ := hrel
    by_cases hlt : k < len2 ∧ k < 30
    · obtain ⟨hlt, h30⟩ := hlt
      obtain ⟨g, o, rfl, hc⟩ := HIN.out (by have := HL.out; omega)
      obtain ⟨z, hz⟩ : ∃ z, ys[k]? = some z := ⟨_, List.getElem?_eq_getElem (by have := HL.out; omega)⟩
      obtain ⟨ca, w0⟩ := hc k z hz
      have ca := HI.out.old_cell ca
      obtain ⟨q0, q1⟩ := amongI_lt z ((n : Int) - m + 1) (by omega)
      obtain ⟨t, ht⟩ : ∃ t : Nat, amongI z ((n : Int) - m + 1) = t := ⟨(amongI z ((n : Int) - m + 1)).toNat, by omega⟩
      have htn : m + t ≤ n := by omega
      have HT := Lib.hid ht
      clear hc hz w0 ht q0 q1
      rcases (show cap = m ∨ m < cap by omega) with rfl | hmc
      · as_aux_lemma =>
        go_wp2_with fail
        refine (among_any z (n - cap + 1) (by omega) (by omega) _).mono ?_
        rintro e w1 ⟨rfl, rfl⟩
        rw [HT.out]
        dsimp only
        go_wp2_with fail
        refine (hash_on _ ((xs.take (cap + t)).drop cap) _ _ (by rw [part_len HFL.out htn]; omega) _ _ (by first | exact HR1.out.sub _ _ | exact RdB.none_left _ (by omega))).mono ?_
        rintro e w1 ⟨rfl, rfl⟩
        rw [fnv_part _ _ (Nat.le_add_right cap t)]
        dsimp only
        go_wp2
        go_roundw
        case rel => exact ⟨k + 1, cap + t, ⟨by omega, htn⟩, rfl, by go_num, by go_num, trivial⟩
        case measure => simp [intOf]; omega
      · as_aux_lemma =>
        go_wp2_with fail
        refine (among_any z (n - m + 1) (by omega) (by omega) _).mono ?_
        rintro e w1 ⟨rfl, rfl⟩
        rw [HT.out]
        dsimp only
        go_wp2_with fail
        refine (hash_on _ ((xs.take (m + t)).drop m) _ _ (by rw [part_len HFL.out htn]; omega) _ _ (by first | exact HR1.out.sub _ _ | exact RdB.none_left _ (by omega))).mono ?_
        rintro e w1 ⟨rfl, rfl⟩
        rw [fnv_part _ _ (Nat.le_add_right m t)]
        dsimp only
        go_wp2
        go_roundw
        case rel => exact ⟨k + 1, m + t, ⟨by omega, htn⟩, rfl, by go_num, by go_num, trivial⟩
        case measure => simp [intOf]; omega
    · have hcase : len2 ≤ k ∨ (k < len2 ∧ 30 ≤ k) := by omega
      clear hlt
      have hxs : xs.take n = xs := List.take_of_length_le (by rw [HFL.out]; exact Nat.le_refl _)
      have HX := Lib.hid hxs
      clear hxs
      have hz : ∀ z : Int, (z == z) = true := by simp
      rcases hcase with hd | ⟨hd, hd2⟩
      all_goals
        go_wp2_with fail
        all_goals
          as_aux_lemma =>
          refine (hash_on _ ((xs.take n).drop m) _ _ (by rw [part_len HFL.out (Nat.le_refl _)]) _ _ (by first | exact HR1.out.sub _ _ | exact RdB.none_left _ (by omega))).mono ?_
          rintro e w1 ⟨rfl, rfl⟩
          rw [fnv_part _ _ hm, HX.out]
          dsimp only
          go_wp2_with fail
          refine (hash_sum _ xs n _ HFL.out _ HR1.out).mono ?_
          rintro e w1 ⟨rfl, rfl⟩
          unfold sum64
          dsimp only
          obtain ⟨y, hy⟩ : ∃ y, fnv 14695981039346656037 xs = y := ⟨_, rfl⟩
          rw [hy]
          go_wp2
          go_ret
          exact ⟨rfl, HI.out.below⟩
end Go.Proofs.Ytofidiolgjblcaa
