/- HashApart's walk. -/
import Derived.Test.YtofidiolgjblcaaHashApart
namespace Go.Proofs.Ytofidiolgjblcaa
open Go Go.RowKit
set_option linter.unusedVariables false
set_option linter.unusedSimpArgs false
theorem xor8_nat (a b : Nat) (ha : a < 256) (hb : b < 256) : bits .xor .u8 (a : Int) (b : Int) = ((a ^^^ b : Nat) : Int) := by
  have hx : a ^^^ b < 2 ^ 8 := Nat.xor_lt_two_pow (by omega) (by omega)
  have h1 : (BitVec.ofInt 8 (a : Int)).toNat = a := by
    rw [BitVec.ofInt_natCast, BitVec.toNat_ofNat]; exact Nat.mod_eq_of_lt (by omega)
  have h2 : (BitVec.ofInt 8 (b : Int)).toNat = b := by
    rw [BitVec.ofInt_natCast, BitVec.toNat_ofNat]; exact Nat.mod_eq_of_lt (by omega)
  have hw : ∀ n : Int, IntKind.u8.wrap n = n % 256 := fun n => by simp [IntKind.wrap, IntKind.bits, IntKind.signed]
  show IntKind.u8.wrap ((BitVec.ofInt 8 (a : Int) ^^^ BitVec.ofInt 8 (b : Int)).toNat : Int) = _
  rw [BitVec.toNat_xor, h1, h2, hw]
  omega
theorem mem_lt {xs : List Nat} (h : ∀ (j : Nat) x, xs[j]? = some x → x < 256) : ∀ y ∈ xs, y < 256 := fun y hy => by
  obtain ⟨j, hj⟩ := List.getElem?_of_mem hy
  exact h j y hj
set_option maxHeartbeats 1000000 in
set_option maxRecDepth 100000 in
theorem hashApart_walk (A : Option Addr) (len cap : Nat) (zs : List Int) (at_ xx : Int) (w : World) (hz : zs.length = len ∧ len ≤ cap ∧ cap ≤ maxLen ∧ len * 1 ≤ 140737488351232 ∧ InI .u8 w A zs) (h1 : (Lit.int .i64 at_).wf = true) (h2 : (Lit.int .u8 xx).wf = true) :
    Calls Try.prog 6 #[.slice A len cap, .int .i64 at_, .int .u8 xx] w (RetB w (.bool true)) := by
  obtain ⟨hlen, hlc, hcm, hby, hin⟩ := hz
  have hrd := few300_rd hin
  have hfl := few300_len zs hlen
  obtain ⟨xs, hxs⟩ : ∃ xs, few300 zs = xs := ⟨_, rfl⟩
  rw [hxs] at hrd hfl
  obtain ⟨n, hn⟩ : ∃ n, min len 300 = n := ⟨_, rfl⟩
  rw [hn] at hfl
  have hn3 : n ≤ 300 := by omega
  have hx2 : 0 ≤ xx ∧ xx < 256 := by
    simp [Lit.wf, IntKind.min, IntKind.max, IntKind.bits, IntKind.signed] at h2
    omega
  obtain ⟨x, rfl⟩ : ∃ x : Nat, xx = x := ⟨xx.toNat, by omega⟩
  have hx : x < 256 := by omega
  have HN := Lib.hid hn
  have HFL := Lib.hid hfl
  have HRD := Lib.hid hrd
  have HLC := Lib.hid hlc
  have HCM := Lib.hid hcm
  clear hlen hin hrd hfl hxs hn hby hlc hcm h1 h2 hx2
  by_cases h0 : n = 0
  · subst h0
    go_enter Try.func6, Try.ntmps6
    go_wp2_with fail
    refine (works03 w).mono ?_
    rintro e w1 ⟨rfl, hb1⟩
    dsimp only
    have HI := Lib.hid ((Inv.refl w).grow hb1)
    clear hb1
    go_wp2_with fail
    refine (few_any A len cap HLC.out HCM.out _).mono ?_
    rintro e w1 ⟨rfl, rfl⟩
    rw [HN.out]
    dsimp only
    go_wp2
    go_ret
    exact ⟨rfl, HI.out.below⟩
  · obtain ⟨t0, t1⟩ := amongI_lt at_ (n : Int) (by omega)
    obtain ⟨k, hk⟩ : ∃ k : Nat, amongI at_ (n : Int) = k := ⟨(amongI at_ (n : Int)).toNat, by omega⟩
    have hkn : k < n := by omega
    have HK := Lib.hid hk
    obtain ⟨b, hb⟩ : ∃ b, xs[k]? = some b := ⟨_, List.getElem?_eq_getElem (by have := HFL.out; omega)⟩
    have hbb := HRD.out.2.1 k b hb
    have e64 := Lib.hid (sum64_set (mem_lt HRD.out.2.1) hb hx)
    have e32 := Lib.hid (sum32_set (mem_lt HRD.out.2.1) hb hx)
    have hxr : bits .xor .u8 (b : Int) (x : Int) = ((b ^^^ x : Nat) : Int) := xor8_nat b x hbb hx
    have hb2 : b ^^^ x < 256 := Nat.xor_lt_two_pow (n := 8) hbb hx
    have hset : (byts xs).set k (.int .u8 ((b ^^^ x : Nat) : Int)) = byts (xs.set k (b ^^^ x)) := by simp [byts, List.map_set]
    have hyb : ∀ (j : Nat) y, (xs.set k (b ^^^ x))[j]? = some y → y < 256 := fun j y hy => by
      rw [List.getElem?_set] at hy
      split at hy
      · split at hy
        · cases hy; exact hb2
        · cases hy
      · exact HRD.out.2.1 j y hy
    have HB := Lib.hid hb
    have HXR := Lib.hid hxr
    have HSET := Lib.hid hset
    have HYB := Lib.hid hyb
    clear hk hb hxr hset hyb t0 t1
    go_enter Try.func6, Try.ntmps6
    go_wp2_with fail
    refine (works03 w).mono ?_
    rintro e w1 ⟨rfl, hb1⟩
    dsimp only
    have HI := Lib.hid ((Inv.refl w).grow hb1)
    have HR1 := Lib.hid (HRD.out.of hb1)
    clear hb1
    go_wp2_with fail
    refine (few_any A len cap HLC.out HCM.out _).mono ?_
    rintro e w1 ⟨rfl, rfl⟩
    rw [HN.out]
    dsimp only
    go_wp2_with fail
    refine (bytes_any A xs n cap HFL.out hn3 _ HR1.out).mono ?_
    rintro e w2 ⟨A', c', rfl, h2⟩
    dsimp only
    obtain ⟨g, rfl, hcell, hfro⟩ := row_at h2 (by omega)
    have hc := hcell k _ (show (byts xs)[k]? = some (.int .u8 b) by simp [byts, HB.out])
    have hf := hfro k
    have H2 := Lib.hid h2
    clear hcell hfro h2
    go_wp2_with fail
    refine (among_any at_ n (by omega) (by omega) _).mono ?_
    rintro e w2 ⟨rfl, rfl⟩
    rw [HK.out]
    dsimp only
    go_wp2_with fail
    rw [HXR.out]
    have h3 := row_set H2.out k (by have := HFL.out; simp [byts]; omega) (.int .u8 ((b ^^^ x : Nat) : Int))
    rw [HSET.out] at h3
    obtain ⟨w3, hw3⟩ : ∃ y, w2.setCell ⟨g, k, none⟩ (.int .u8 ((b ^^^ x : Nat) : Int)) = y := ⟨_, rfl⟩
    rw [hw3] at h3 ⊢
    have HI3 := Lib.hid (HI.out.grow h3.below)
    have HRA := Lib.hid (HR1.out.of h3.below)
    have hyl : (xs.set k (b ^^^ x)).length = n := by rw [List.length_set]; exact HFL.out
    have HRY := Lib.hid (row_rdb h3 (by rw [hyl]; omega) HYB.out)
    obtain ⟨ys, hys⟩ : ∃ ys, xs.set k (b ^^^ x) = ys := ⟨_, rfl⟩
    rw [hys] at HRY hyl e64 e32
    have HYL := Lib.hid hyl
    clear h3 hw3 hys hyl hc hf
    obtain ⟨u1, hu1⟩ : ∃ v, sum64 xs = v := ⟨_, rfl⟩
    obtain ⟨u2, hu2⟩ : ∃ v, sum64 ys = v := ⟨_, rfl⟩
    obtain ⟨u3, hu3⟩ : ∃ v, sum32 xs = v := ⟨_, rfl⟩
    obtain ⟨u4, hu4⟩ : ∃ v, sum32 ys = v := ⟨_, rfl⟩
    have e1 := e64.out
    have e2 := e32.out
    rw [hu1, hu2] at e1
    rw [hu3, hu4] at e2
    have HU1 := Lib.hid hu1
    have HU2 := Lib.hid hu2
    have HU3 := Lib.hid hu3
    have HU4 := Lib.hid hu4
    clear hu1 hu2 hu3 hu4 e64 e32
    by_cases hx0 : x = 0
    all_goals
      first | rw [decide_eq_true hx0] at e1 e2 | rw [decide_eq_false hx0] at e1 e2
      have hxz : ((x : Int) == 0) = decide (x = 0) := by
        by_cases h : x = 0
        · subst h; rfl
        · rw [decide_eq_false h, beq_eq_false_iff_ne]; omega
      first | rw [decide_eq_true hx0] at hxz | rw [decide_eq_false hx0] at hxz
      refine (hash_sum A xs n cap HFL.out _ HRA.out).mono ?_
      rintro e w3 ⟨rfl, rfl⟩
      rw [HU1.out]
      dsimp only
      go_wp2_with fail
      refine (hash_sum _ ys n c' HYL.out _ HRY.out).mono ?_
      rintro e w3 ⟨rfl, rfl⟩
      rw [HU2.out]
      dsimp only
      go_wp2_with fail
      refine (hash_small A xs n cap HFL.out _ HRA.out).mono ?_
      rintro e w3 ⟨rfl, rfl⟩
      rw [HU3.out]
      dsimp only
      go_wp2_with fail
      refine (hash_small _ ys n c' HYL.out _ HRY.out).mono ?_
      rintro e w3 ⟨rfl, rfl⟩
      rw [HU4.out]
      dsimp only
      go_wp2
      go_ret
      exact ⟨rfl, HI3.out.below⟩
end Go.Proofs.Ytofidiolgjblcaa
