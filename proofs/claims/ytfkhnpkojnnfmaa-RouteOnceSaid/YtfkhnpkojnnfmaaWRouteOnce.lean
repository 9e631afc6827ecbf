/- RouteOnce: each key goes to just one part, whatever the others are; for every number of parts and keys. -/
import Derived.Test.YtfkhnpkojnnfmaaRouteG
import Derived.Test.YtfkhnpkojnnfmaaRouteF
import Derived.Test.YtfkhnpkojnnfmaaHasInt
import Derived.Test.YtfkhnpkojnnfmaaAmong
namespace Go.Proofs.Ytfkhnpkojnnfmaa
open Go Go.RowKit
set_option linter.unusedVariables false
set_option linter.unusedSimpArgs false
set_option maxHeartbeats 2000000 in
set_option maxRecDepth 100000 in
theorem routeOnce_walk (p : Int) (A : Option Addr) (len cap : Nat) (zss : List (List Int)) (w : World) (w0 : (Lit.int .i64 p).wf = true) (hz : zss.length = len ∧ len ≤ cap ∧ cap ≤ maxLen ∧ len * 24 ≤ 140737488351232 ∧ InII .u8 w A zss) :
    Calls Try.prog 3 #[.int .i64 p, .slice A len cap] w (RetB w (.bool true)) := by
  obtain ⟨hl, hlc, hcm, hby, hz⟩ := hz
  have hlb : len ≤ 140737488351232 := by omega
  obtain ⟨m, hm⟩ : ∃ m, min len 257 = m := ⟨_, rfl⟩
  have hm2 : m ≤ 257 := by omega
  have hml : (fewTo zss m).length = m := fewTo_len (by omega)
  have hok := fewTo_ok hz hm2
  obtain ⟨m0, m1⟩ := amongI_lt p 8 (by omega)
  obtain ⟨q0, ham⟩ : ∃ q : Nat, amongI p 8 = q := ⟨(amongI p 8).toNat, by omega⟩
  obtain ⟨q, hq⟩ : ∃ q, 1 + q0 = q := ⟨_, rfl⟩
  have hq1 : 1 ≤ q := by omega
  have hq8 : q ≤ 8 := by omega
  have hqq : (1 : Int) + (q0 : Int) = (q : Int) := by omega
  have hq08 : q0 < 8 := by omega
  have hp := rtMay_of (p := (q : Int)) (by omega) (by omega)
  clear hlc hcm hby w0 m0 m1
  have Hhl := Lib.hid hl
  have Hhz := Lib.hid hz
  have Hhm := Lib.hid hm
  have Hhml := Lib.hid hml
  have Hhok := Lib.hid hok
  have Hham := Lib.hid ham
  have Hhp := Lib.hid hp
  have Hhqq := Lib.hid hqq
  clear hl hz hm hml hok ham hp hqq
  by_cases h256 : 256 < m
  · have hr : Refuses q m 3 := .inr ⟨Hhp.out, by omega, by omega, h256, rfl⟩
    have Hhr := Lib.hid hr
    clear hr
    go_enter Try.func3, Try.ntmps3
    go_wp2_with fail
    refine (works11 _).mono ?_
    rintro e w1 ⟨rfl, hw⟩
    dsimp only
    have hI := (Inv.refl w).grow hw
    clear hw
    have HhI := Lib.hid hI
    clear hI
    go_wp2_with fail
    refine (few_any HhI.out A len cap zss Hhl.out hlb Hhz.out).mono ?_
    rintro e w2 ⟨A', c', rfl, h2⟩
    rw [Hhm.out] at h2 ⊢
    dsimp only
    have H2 := Lib.hid h2
    clear h2 HhI
    go_wp2_with fail
    refine (among_any p 8 (by omega) (by omega) _).mono ?_
    rintro e w' ⟨rfl, rfl⟩
    rw [Hham.out]
    dsimp only
    go_wp2_with fail
    rw [Hhqq.out]
    refine (rt_sort_no q 3 hm2 H2.out Hhr.out).mono ?_
    rintro e w3 ⟨rfl, h3⟩
    dsimp only
    have H3 := Lib.hid h3
    clear h3 H2
    go_wp2
    go_ret
    exact ⟨rfl, H3.out.below⟩
  · have h2' : m ≤ 256 := by omega
    have hS := sorted_at q hq1 (fewTo zss m) m (by rw [Hhml.out]; exact Nat.le_refl _)
    have HhS := Lib.hid hS
    clear hS
    go_enter Try.func3, Try.ntmps3
    go_wp2_with fail
    refine (works11 _).mono ?_
    rintro e w1 ⟨rfl, hw⟩
    dsimp only
    have hI := (Inv.refl w).grow hw
    clear hw
    have HhI := Lib.hid hI
    clear hI
    go_wp2_with fail
    refine (few_any HhI.out A len cap zss Hhl.out hlb Hhz.out).mono ?_
    rintro e w2 ⟨A', c', rfl, h2⟩
    rw [Hhm.out] at h2 ⊢
    dsimp only
    have H2 := Lib.hid h2
    clear h2 HhI
    go_wp2_with fail
    refine (among_any p 8 (by omega) (by omega) _).mono ?_
    rintro e w' ⟨rfl, rfl⟩
    rw [Hham.out]
    dsimp only
    go_wp2_with fail
    rw [Hhqq.out]
    refine (rt_sort q Hhp.out h2' Hhok.out H2.out).mono ?_
    rintro e w3 (⟨hs, g, rfl, h3⟩ | ⟨hs, rfl, h3⟩)
    · dsimp only
      have Hhs := Lib.hid hs
      clear hs
      have h4 : Inv w (w3.alloc (.cells #[] 3)) _ := row_mk (n := 0) (c := 0) (sz := 1) (xs := []) (h3.alloc (.cells #[] 3)) (Nat.le_refl 0) (by decide) (by simp) (by simp)
      have H4 := Lib.hid h4
      clear h3 H2 h4
      as_aux_lemma =>
      go_wp2_with fail
      go_loopw [7, 8] (fun v i wr => ∃ (b n2 : Nat) (A2 : Option Addr) (c2 : Nat), (b ≤ q ∧ n2 ≤ m) ∧ v = .slice A2 n2 c2 ∧ i = .int .i64 b ∧ Hid (((rtSort q (fewTo zss m) m).take b).flatten.length = n2) ∧ Inv w wr [RowA 3 1 A2 n2 c2 (ints ((rtSort q (fewTo zss m) m).take b).flatten), GridA 30 3 (some ⟨g, 0, none⟩) q q (rtRows (rtSort q (fewTo zss m) m)), KeysA A' m c' (fewTo zss m)]) (fun _ i _ => q - (intOf i).toNat)
      case atStart => exact ⟨0, 0, _, 0, ⟨by omega, by omega⟩, rfl, rfl, Lib.hid (by simp), by simpa [ints] using H4.out⟩
      case round =>
        obtain ⟨b, n2, A2, c2, ⟨hb, hnm⟩, rfl, rfl, hn2, hI⟩ := hrel
        have HI := Lib.hid hI
        clear H4
        by_cases hbq : b < q
        · obtain ⟨x, hx⟩ : ∃ x, (rtSort q (fewTo zss m) m)[b]? = some x := ⟨_, List.getElem?_eq_getElem (by rw [rtSort_len]; exact hbq)⟩
          have hxl := rtSort_le _ _ _ _ _ hx
          have hbq' : (b : Int) < q := by omega
          have hst : Hid (hadTo (rtSort q (fewTo zss m) m) b x 0 = ((rtSort q (fewTo zss m) m).take b).flatten) := Lib.hid (by simp [hadTo])
          have hend := hadTo_end hx
          have Hhx := Lib.hid hx
          have Hhend := Lib.hid hend
          clear hx hend
          clear hI
          go_wp2_with fail
          obtain ⟨wo, rfl⟩ : ∃ wo : World, wo = wr := ⟨_, rfl⟩
          go_loopw [7, 9, 10, 11, 12] (fun v i _ _ _ wr => ∃ (k n2 : Nat) (A2 : Option Addr) (c2 : Nat), (k ≤ x.length ∧ n2 ≤ m) ∧ v = .slice A2 n2 c2 ∧ i = .int .i64 k ∧ Hid ((hadTo (rtSort q (fewTo zss m) m) b x k).length = n2) ∧ Inv w wr [RowA 3 1 A2 n2 c2 (ints (hadTo (rtSort q (fewTo zss m) m) b x k)), GridA 30 3 (some ⟨g, 0, none⟩) q q (rtRows (rtSort q (fewTo zss m) m)), KeysA A' m c' (fewTo zss m)]) (fun _ i _ _ _ _ => x.length - (intOf i).toNat)
          case atStart => exact ⟨0, n2, A2, c2, ⟨by omega, hnm⟩, rfl, rfl, Lib.hid (by rw [hst.out]; exact hn2.out), by rw [hst.out]; exact HI.out⟩
          case round =>
            clear HI
            obtain ⟨k, n3, A3, c3, ⟨hk, hn3m⟩, rfl, rfl, hn3, hI⟩ := hrel
            have HI := Lib.hid hI
            by_cases hlt : k < x.length
            · obtain ⟨v, hv⟩ : ∃ v, x[k]? = some v := ⟨_, List.getElem?_eq_getElem hlt⟩
              obtain ⟨j, rfl, hj, key, hkey, hpart⟩ := HhS.out.part b x k v Hhx.out hv
              obtain ⟨B, d, hcB, hrB, hd1, hd2⟩ := rows_at hI.pull1 Hhx.out
              obtain ⟨ad, rfl, hcx⟩ := (hrB (by omega)).2 (by omega)
              have hck := hcx k _ hv
              have hrh := row_rdi hI (by rw [hn3.out]; omega)
              have hdec := decide_eq_false (HhS.out.apart Hhx.out hv)
              obtain ⟨gk, Bk, dk, rfl, hcK, hrK, hdk1, hdk2⟩ := keys_at hI.pull2 Hhok.out hkey
              have hshort := Hhs.out j key hj hkey
              have hcall := rt_of q Bk key key.length dk rfl wr hrK
              rw [rtOf_in Hhp.out hshort, hpart] at hcall
              have hs' := hadTo_succ (R := rtSort q (fewTo zss m) m) (b := b) hv
              have hlen' : (hadTo (rtSort q (fewTo zss m) m) b x (k + 1)).length = n3 + 1 := by rw [hs', List.length_append, hn3.out]; rfl
              have hlm : n3 + 1 ≤ m := by have := hadTo_len HhS.out (i := k + 1) Hhx.out; omega
              obtain ⟨i0, hi, hz0, hz1, hz2⟩ := info_parts intInfo
              have hrd : Rd (wr.alloc (.cells #[.int .i64 (j : Int)] 3)) 1 (some ⟨wr.heap.size, 0, none⟩) 1 [.int .i64 (j : Int)] := blk_rd (sz := 1) (n := 1) (cs := [.int .i64 (j : Int)]) (hI.alloc (.cells #[.int .i64 (j : Int)] 3)) (by simp) (fun j u hj => by simpa using hj)
              have j0 : (0 : Int) ≤ j := by omega
              have jm : (j : Int) < m := by omega
              unfold maxLen at hd2 hdk2
              by_cases hk0 : k = 0
              · subst hk0
                rw [show ad.add 0 = ad by unfold Addr.add; split <;> simp_all] at hck
                as_aux_lemma =>
                have Hhrh := Lib.hid hrh
                have Hhdec := Lib.hid hdec
                have Hhcall := Lib.hid hcall
                have Hhs' := Lib.hid hs'
                have Hhlen' := Lib.hid hlen'
                have Hhrd := Lib.hid hrd
                clear hrh hdec hcall hs' hlen' hrd
                clear hI hrB hkey hpart hrK hshort hcx hv
                go_wp2_with fail
                refine (has_any A3 _ n3 c3 hn3.out (j : Int) _ Hhrh.out).mono ?_
                rintro e w' ⟨rfl, rfl⟩
                rw [Hhdec.out]
                dsimp only
                go_wp2_with fail
                refine Hhcall.out.mono ?_
                rintro e w' ⟨rfl, rfl⟩
                dsimp only [duoV]
                go_wp2_with (at_builtin; refine wpList_append_rd rfl _ _ 30 rfl i0 _ 8 Try.underlying30 hi hz0 hz1 hz2 rfl (by decide) rfl (HI.out.alloc (.cells #[.int .i64 (j : Int)] 3)).pull1 rfl Hhrd.out (one_one rfl) (len_ok (by omega)) (by omega) ?_)
                intro A6 c6 w6 h6
                rw [← ints_snoc, ← Hhs'.out] at h6
                have H6 := Lib.hid h6.pull1.drop
                clear h6
                go_wp2
                go_roundw
                case rel => exact ⟨1, n3 + 1, A6, c6, ⟨by omega, by omega⟩, rfl, by go_num, Lib.hid Hhlen'.out, H6.out⟩
                case measure => simp [intOf]; omega
              · obtain ⟨k', hkk⟩ : ∃ k', k' + 1 = k := ⟨k - 1, by omega⟩
                obtain ⟨u, hu⟩ : ∃ u, x[k']? = some u := ⟨_, List.getElem?_eq_getElem (by omega)⟩
                obtain ⟨ju, rfl, _, _⟩ := HhS.out.part b x k' u Hhx.out hu
                have hup := HhS.out.rises Hhx.out hu (by rw [hkk]; exact hv)
                have hcu := hcx k' _ hu
                have k1 : (k : Int) - 1 = (k' : Int) := by omega
                have k2 : (0 : Int) < k := by omega
                have hk'0 : (0 : Int) ≤ k' := by omega
                have hk'1 : (k' : Int) < x.length := by omega
                have hge : decide ((j : Int) ≤ (ju : Int)) = false := decide_eq_false (by omega)
                have hge2 : decide (j ≤ ju) = false := decide_eq_false (by omega)
                clear hkk hu hup hk0
                as_aux_lemma =>
                have Hhrh := Lib.hid hrh
                have Hhdec := Lib.hid hdec
                have Hhcall := Lib.hid hcall
                have Hhs' := Lib.hid hs'
                have Hhlen' := Lib.hid hlen'
                have Hhrd := Lib.hid hrd
                clear hrh hdec hcall hs' hlen' hrd
                clear hI hrB hkey hpart hrK hshort hcx hv
                go_wp2_with fail
                refine (has_any A3 _ n3 c3 hn3.out (j : Int) _ Hhrh.out).mono ?_
                rintro e w' ⟨rfl, rfl⟩
                rw [Hhdec.out]
                dsimp only
                go_wp2_with fail
                refine Hhcall.out.mono ?_
                rintro e w' ⟨rfl, rfl⟩
                dsimp only [duoV]
                go_wp2_with (at_builtin; refine wpList_append_rd rfl _ _ 30 rfl i0 _ 8 Try.underlying30 hi hz0 hz1 hz2 rfl (by decide) rfl (HI.out.alloc (.cells #[.int .i64 (j : Int)] 3)).pull1 rfl Hhrd.out (one_one rfl) (len_ok (by omega)) (by omega) ?_)
                intro A6 c6 w6 h6
                rw [← ints_snoc, ← Hhs'.out] at h6
                have H6 := Lib.hid h6.pull1.drop
                clear h6
                go_wp2
                go_roundw
                case rel => exact ⟨k + 1, n3 + 1, A6, c6, ⟨by omega, by omega⟩, rfl, by go_num, Lib.hid Hhlen'.out, H6.out⟩
                case measure => simp [intOf]; omega
            · obtain rfl : x.length = k := by omega
              obtain ⟨B, d, hcB, hrB, hd1, hd2⟩ := rows_at hI.pull1 Hhx.out
              rw [Hhend.out] at hn3
              have hJ := HI.out
              rw [Hhend.out] at hJ
              have HJ := Lib.hid hJ
              unfold maxLen at hd2
              clear hI hrB hJ
              as_aux_lemma =>
              go_wp2
              go_roundw
              case rel => exact ⟨b + 1, n3, A3, c3, ⟨by omega, by omega⟩, rfl, by go_num, hn3, HJ.out⟩
              case measure => simp [intOf]; omega
        · obtain rfl : q = b := by omega
          have hall : (rtSort q (fewTo zss m) m).take q = rtSort q (fewTo zss m) m := List.take_of_length_le (by rw [rtSort_len]; exact Nat.le_refl _)
          have hn : n2 = m := by rw [← hn2.out, hall, HhS.out.len]
          subst hn
          clear hI hall
          as_aux_lemma =>
          go_wp2
          go_ret
          exact ⟨rfl, HI.out.below⟩
    · dsimp only
      have Hhs := Lib.hid hs
      clear hs
      have H3 := Lib.hid h3
      clear h3 H2
      as_aux_lemma =>
      go_wp2
      go_ret
      exact ⟨rfl, H3.out.below⟩
end Go.Proofs.Ytfkhnpkojnnfmaa
