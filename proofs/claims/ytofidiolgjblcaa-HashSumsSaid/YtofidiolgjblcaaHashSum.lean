/- HashSums: the sums of any bytes, going on from any, are what the document says. -/
import Derived.Test.YtofidiolgjblcaaHashRef
namespace Go.Proofs.Ytofidiolgjblcaa
open Go Go.RowKit
set_option linter.unusedVariables false
set_option linter.unusedSimpArgs false
/-- Bytes as a text. -/
def txt (xs : List Nat) : ByteArray := ⟨(xs.map UInt8.ofNat).toArray⟩
theorem txt_size (xs : List Nat) : (txt xs).size = xs.length := by simp [txt, ByteArray.size]
theorem bl_txt {xs : List Nat} (h : ∀ (j : Nat) x, xs[j]? = some x → x < 256) : bl (txt xs) = xs := by
  simp only [bl, txt, List.map_map]
  apply List.ext_getElem?
  intro j
  rw [List.getElem?_map]
  cases hx : xs[j]? with
  | none => rfl
  | some x => simp [Function.comp, Nat.mod_eq_of_lt (h j x hx)]
theorem conv_txt (w : World) (A : Option Addr) (xs : List Nat) (n c : Nat) (hn : xs.length = n) (h : RdB w A xs) :
    (convert 23 9 (.slice A n c)).run Try.prog w = .ok (.string (txt xs)) w := by
  subst hn
  cases A with
  | none =>
    have h0 : xs = [] := by
      cases xs with
      | nil => rfl
      | cons x xs => obtain ⟨g, o, e, _⟩ := h.2.2 (by simp); cases e
    subst h0
    show (convert 23 9 (.slice none 0 c)).run Try.prog w = _
    rw [run_convert_bytes_string w 23 9 5 none 0 c Try.underlying23 Try.underlying5 Try.underlying9]
    rfl
  | some a =>
    have := run_convert_bytes_back (P := Try.prog) w 23 9 5 a c (xs.map UInt8.ofNat) Try.underlying23 Try.underlying5 Try.underlying9 (fun j hj => by
      have hj' : j < xs.length := by simpa using hj
      obtain ⟨g, o, e, hc⟩ := h.2.2 (by omega)
      cases e
      rw [addr_add, hc j _ (List.getElem?_eq_getElem hj')]
      have := h.2.1 j _ (List.getElem?_eq_getElem hj')
      simp [Nat.mod_eq_of_lt this])
    rw [List.length_map] at this
    exact this
set_option maxHeartbeats 400000 in
theorem same_bytes (A B : Option Addr) (xs : List Nat) (n c d : Nat) (hn : xs.length = n) (w : World) (h1 : RdB w A xs) (h2 : RdB w B xs) :
    Calls Try.prog 17 #[.slice A n c, .slice B n d] w fun e w' => e = .returned (.bool true) ∧ w' = w := by
  have k1 := conv_txt w A xs n c hn h1
  have k2 := conv_txt w B xs n d hn h2
  go_enter Try.func17, Try.ntmps17
  go_wp2
  go_ret
  refine ⟨?_, rfl⟩
  simp
theorem onK_ref32 (S : Int) (b : Int) : onK .u32 16777619 S b.toNat = onK .u32 16777619 S b.toNat := rfl
theorem on32_ref (y : Int) : IntKind.u32.wrap (y * 16777619) = IntKind.u32.wrap (IntKind.u32.wrap (y * 16777216) + IntKind.u32.wrap (y * 403)) := by
  simp only [IntKind.wrap_u32]
  omega
set_option maxHeartbeats 1000000 in
set_option maxRecDepth 100000 in
theorem ref_small (A : Option Addr) (xs : List Nat) (n c : Nat) (hn : xs.length = n) (w : World) (h : RdB w A xs) :
    Calls Try.prog 15 #[.slice A n c] w fun e w' => e = .returned (.int .u32 (sum32 xs)) ∧ w' = w := by
  have hnb : n ≤ 140737488355328 := by have := h.1; omega
  have HN := Lib.hid hn
  have HR := Lib.hid h
  clear h hn
  go_enter Try.func15, Try.ntmps15
  go_wp2_with fail
  go_loopw [3, 4] (fun sv i wr => ∃ (k : Nat) (S : Int), (k ≤ n ∧ (xs.take k).foldl (onK .u32 16777619) 2166136261 = S) ∧ sv = .int .u32 S ∧ i = .int .i64 k ∧ wr = w) (fun _ i _ => n - (intOf i).toNat)
  case atStart => exact ⟨0, _, ⟨Nat.zero_le _, rfl⟩, rfl, rfl, rfl⟩
  case round =>
    obtain ⟨k, S, ⟨hk, hf⟩, rfl, rfl, rfl⟩ := hrel
    by_cases hlt : k < n
    · obtain ⟨g, o, rfl, hc⟩ := HR.out.2.2 (by have := HN.out; omega)
      obtain ⟨b, hb⟩ : ∃ z, xs[k]? = some z := ⟨_, List.getElem?_eq_getElem (by have := HN.out; omega)⟩
      have hc := hc k b hb
      have hbb := HR.out.2.1 k b hb
      have hst : (xs.take (k + 1)).foldl (onK .u32 16777619) 2166136261 = onK .u32 16777619 S b := by
        rw [fold_succ (by have := HN.out; omega), hf, (List.getElem?_eq_some_iff.1 hb).2]
      unfold onK at hst
      rw [on32_ref] at hst
      have hwb : IntKind.u32.wrap (b : Int) = (b : Int) := by rw [IntKind.wrap_u32]; omega
      rw [hwb] at hst
      have HST := Lib.hid hst
      clear hst hf hb hwb
      go_wp2_with fail
      go_roundw
      case rel => exact ⟨k + 1, _, ⟨by omega, HST.out⟩, rfl, by go_num, trivial⟩
      case measure => simp [intOf]; omega
    · obtain rfl : k = n := by omega
      have hx : xs.take k = xs := List.take_of_length_le (by rw [HN.out]; exact Nat.le_refl _)
      rw [hx] at hf
      have HF := Lib.hid hf
      clear hf hx hlt
      go_wp2
      go_ret
      exact ⟨by unfold sum32; rw [HF.out]; rfl, rfl⟩
set_option maxHeartbeats 2000000 in
set_option maxRecDepth 100000 in
theorem hashSums_walk (s : Int) (A : Option Addr) (len cap : Nat) (zs : List Int) (w : World) (hs : (Lit.int .u64 s).wf = true) (hz : zs.length = len ∧ len ≤ cap ∧ cap ≤ maxLen ∧ len * 1 ≤ 140737488351232 ∧ InI .u8 w A zs) :
    Calls Try.prog 3 #[.int .u64 s, .slice A len cap] w (RetB w (.bool true)) := by
  obtain ⟨hlen, hlc, hcm, hby, hin⟩ := hz
  have hrd := few300_rd hin
  have hfl := few300_len zs hlen
  obtain ⟨xs, hxs⟩ : ∃ xs, few300 zs = xs := ⟨_, rfl⟩
  rw [hxs] at hrd hfl
  obtain ⟨n, hn⟩ : ∃ n, min len 300 = n := ⟨_, rfl⟩
  rw [hn] at hfl
  have hn3 : n ≤ 300 := by omega
  have hs2 : 0 ≤ s ∧ s < 18446744073709551616 := by
    simp [Lit.wf, IntKind.min, IntKind.max, IntKind.bits, IntKind.signed] at hs
    omega
  obtain ⟨S, rfl⟩ : ∃ S : Nat, s = S := ⟨s.toNat, by omega⟩
  have HN := Lib.hid hn
  have HFL := Lib.hid hfl
  have HRD := Lib.hid hrd
  have HLC := Lib.hid hlc
  have HCM := Lib.hid hcm
  have hS : S < 18446744073709551616 := by omega
  have HT := Lib.hid (bl_txt hrd.2.1)
  have HTS := Lib.hid (show (txt xs).size ≤ 140737488355328 by rw [txt_size]; omega)
  obtain ⟨v, hv⟩ : ∃ v, fnv S xs = v := ⟨_, rfl⟩
  have HV := Lib.hid hv
  obtain ⟨v2, hv2⟩ : ∃ v, sum64 xs = v := ⟨_, rfl⟩
  have HV2 := Lib.hid hv2
  obtain ⟨v3, hv3⟩ : ∃ v, sum32 xs = v := ⟨_, rfl⟩
  have HV3 := Lib.hid hv3
  clear hlen hin hrd hfl hxs hn hby hlc hcm hs hs2 hv hv2 hv3
  have hvv : ∀ v : Int, (v == v) = true := by simp
  go_enter Try.func3, Try.ntmps3
  go_wp2_with fail
  refine (few_any A len cap HLC.out HCM.out _).mono ?_
  rintro e w ⟨rfl, rfl⟩
  rw [HN.out]
  dsimp only
  go_wp2_with fail
  refine (bytes_any A xs n cap HFL.out hn3 _ HRD.out).mono ?_
  rintro e w1 ⟨A', c', rfl, h2⟩
  have HI := Lib.hid h2.drop
  have HR2 := Lib.hid (row_rdb h2 HRD.out.1 HRD.out.2.1)
  clear h2
  dsimp only
  go_wp2_with fail
  refine (hash_on A' xs n c' HFL.out S _ HR2.out).mono ?_
  rintro e w1 ⟨rfl, rfl⟩
  rw [HV.out]
  dsimp only
  go_wp2_with fail
  refine (ref_on A xs n cap HFL.out S hS _ (HRD.out.of HI.out.below)).mono ?_
  rintro e w2 ⟨rfl, hb⟩
  rw [HV.out]
  have HI2 := Lib.hid (HI.out.grow hb)
  have HR3 := Lib.hid (HR2.out.of hb)
  clear hb
  dsimp only
  go_wp2_with fail
  refine (hash_sum A' xs n c' HFL.out _ HR3.out).mono ?_
  rintro e w2 ⟨rfl, rfl⟩
  rw [HV2.out]
  dsimp only
  go_wp2_with fail
  refine (ref_sum A xs n cap HFL.out _ (HRD.out.of HI2.out.below)).mono ?_
  rintro e w3 ⟨rfl, hb⟩
  rw [HV2.out]
  have HI3 := Lib.hid (HI2.out.grow hb)
  have HR4 := Lib.hid (HR3.out.of hb)
  clear hb
  dsimp only
  go_wp2_with fail
  refine (hash_small A' xs n c' HFL.out _ HR4.out).mono ?_
  rintro e w3 ⟨rfl, rfl⟩
  rw [HV3.out]
  dsimp only
  go_wp2_with fail
  refine (ref_small A xs n cap HFL.out _ (HRD.out.of HI3.out.below)).mono ?_
  rintro e w3 ⟨rfl, rfl⟩
  rw [HV3.out]
  dsimp only
  have hcv := conv_txt w3 A xs n cap HFL.out (HRD.out.of HI3.out.below)
  go_wp2_with fail
  clear hcv
  refine (hash_text (txt xs) HTS.out _).mono ?_
  rintro e w4 ⟨rfl, hb⟩
  rw [HT.out, HV2.out]
  have HI4 := Lib.hid (HI3.out.grow hb)
  have HR5 := Lib.hid (HR4.out.of hb)
  clear hb
  dsimp only
  go_wp2_with fail
  refine (ref_sum A xs n cap HFL.out _ (HRD.out.of HI4.out.below)).mono ?_
  rintro e w5 ⟨rfl, hb⟩
  rw [HV2.out]
  have HI5 := Lib.hid (HI4.out.grow hb)
  have HR6 := Lib.hid (HR5.out.of hb)
  clear hb
  dsimp only
  go_wp2_with fail
  refine (same_bytes A' A xs n c' cap HFL.out _ HR6.out (HRD.out.of HI5.out.below)).mono ?_
  rintro e w5 ⟨rfl, rfl⟩
  dsimp only
  go_wp2_with fail
  refine (works03 w5).mono ?_
  rintro e w6 ⟨rfl, hb⟩
  have HI6 := Lib.hid (HI5.out.grow hb)
  clear hb
  dsimp only
  go_wp2
  go_ret
  exact ⟨rfl, HI6.out.below⟩
end Go.Proofs.Ytofidiolgjblcaa
