/- Where keys go, the reference's: postriderref11.Sort; and how unevenly. -/
import Derived.Test.YtfkhnpkojnnfmaaRouteS
namespace Go.Proofs.Ytfkhnpkojnnfmaa
open Go Go.RowKit
set_option linter.unusedVariables false
set_option linter.unusedSimpArgs false
/-- What Sort answers, and what lies in memory then. -/
def SortPost (W : World) (A : Option Addr) (n c : Nat) (ks : List (List Nat)) (p : Nat) (Rs : List Asn) (e : Ending) (w' : World) : Prop :=
  (ShortTo ks n ∧ ∃ g, e = .returned (.tuple #[.slice (some ⟨g, 0, none⟩) p p, .int .i64 0]) ∧ Inv W w' (GridA 30 3 (some ⟨g, 0, none⟩) p p (rtRows (rtSort p ks n)) :: KeysA A n c ks :: Rs)) ∨
  (¬ ShortTo ks n ∧ e = .returned (.tuple #[.slice none 0 0, .int .i64 3]) ∧ Inv W w' (KeysA A n c ks :: Rs))
set_option maxHeartbeats 2000000 in
set_option maxRecDepth 100000 in
theorem rt_rsort {W w : World} {Rs : List Asn} {A : Option Addr} {n c : Nat} {ks : List (List Nat)} (p : Nat) (hb : rtMay p = 0) (hm : n ≤ 256) (hk : KeysOk ks) (h : Inv W w (KeysA A n c ks :: Rs)) :
    Calls Try.prog 16 #[.int .i64 p, .slice A n c] w (SortPost W A n c ks p Rs) := by
  obtain ⟨hn, hnc, hcm⟩ := keys_len h
  obtain ⟨p1, p2⟩ := rtMay_ok hb
  obtain ⟨i1, hi', hz0', hz1', hz2'⟩ := info_parts rowInfo
  have hmk := fun w => run_make (P := Try.prog) w 26 30 i1 _ Try.underlying26 hi' hz0' .i64 .i64 p p (by omega) (by omega) (by rw [hz2']; omega) (by omega)
  simp only [hz1', Int.toNat_natCast] at hmk
  have hg0 := row_mk (n := p) (c := p) (sz := 1) (xs := List.replicate p (.slice none 0 0)) (h.alloc (.cells (madeCells #[.slice none 0 0] p) 30)) (Nat.le_refl p) (by unfold maxLen; omega) (by rw [size_madeCells]; omega) (by rw [toList_madeCells_one, List.take_of_length_le (by simp)])
  have hg1 := grid_nils (ei := 3) hg0
  obtain ⟨b0, hb0⟩ : ∃ x, w.heap.size = x := ⟨_, rfl⟩
  rw [hb0] at hg1
  clear hi' hz0' hz1' hz2'
  unfold maxLen at hcm
  have p1' : ¬ (p : Int) < 1 := by omega
  have Hhg1 := Lib.hid hg1
  have Hhb := Lib.hid hb
  have Hhn := Lib.hid hn
  have Hhk := Lib.hid hk
  have Hhb0 := Lib.hid hb0
  clear hg1 hb hn hk hb0
  clear hg0 h
  go_enter Try.func16, Try.ntmps16
  go_wp2_with fail
  rw [Hhb0.out]
  go_loopw [7] (fun i wr => ∃ k : Nat, k ≤ n ∧ i = .int .i64 k ∧ Hid (ShortTo ks k) ∧ Inv W wr (GridA 30 3 (some ⟨b0, 0, none⟩) p p (rtRows (rtSort p ks k)) :: KeysA A n c ks :: Rs)) (fun i _ => n - (intOf i).toNat)
  case atStart => exact ⟨0, Nat.zero_le _, rfl, Lib.hid (fun i k hi _ => by omega), by simpa [rtRows, rtSort, ints] using Hhg1.out⟩
  case round =>
    obtain ⟨k, hle, rfl, hsh, hI⟩ := hrel
    clear Hhg1 hmk
    have HI := Lib.hid hI
    by_cases hlt : k < n
    · obtain ⟨key, hkey⟩ : ∃ x, ks[k]? = some x := ⟨_, List.getElem?_eq_getElem (by have := Hhn.out; omega)⟩
      obtain ⟨g, B, d, rfl, hc, hrd, _, _⟩ := keys_at hI.pull1 Hhk.out hkey
      have hcall := rt_ref p B key key.length d rfl wr hrd
      by_cases hlong : 64 < key.length
      · rw [rtOf_long Hhb.out hlong] at hcall
        have hns : ¬ ShortTo ks n := fun hs => hs k key hlt hkey hlong
        have Hhcall := Lib.hid hcall
        have Hhns := Lib.hid hns
        clear hcall hns
        clear hkey hI hrd hlong
        go_wp2_with fail
        refine Hhcall.out.mono ?_
        rintro e w2 ⟨rfl, hw⟩
        dsimp only [duoV]
        have h2 := HI.out.grow hw
        have Hh2 := Lib.hid h2
        clear h2
        clear hw HI
        go_wp2
        go_ret2
        exact .inr ⟨Hhns.out, rfl, Hh2.out.drop⟩
      · rw [rtOf_in Hhb.out hlong] at hcall
        obtain ⟨q0, q1⟩ := part_lt (p := (p : Int)) (by omega) key
        obtain ⟨b, hb⟩ : ∃ b : Nat, part p key = b := ⟨(part p key).toNat, by omega⟩
        have hbn : (part p key).toNat = b := by omega
        rw [hb] at hcall q0 q1
        have hbp : b < p := by omega
        obtain ⟨x, hxb⟩ : ∃ x, (rtSort p ks k)[b]? = some x := ⟨_, List.getElem?_eq_getElem (by rw [rtSort_len]; exact hbp)⟩
        have hxl := rtSort_le p ks k b x hxb
        have hS := rtSort_at hkey hbn hxb
        have hxr : (rtRows (rtSort p ks k))[b]? = some (ints x) := by unfold rtRows; rw [List.getElem?_map, hxb]; rfl
        have hsn := Lib.hid (ShortTo.succ hsh.out hkey hlong)
        have Hhcall := Lib.hid hcall
        have HhS := Lib.hid hS
        have Hhxr := Lib.hid hxr
        clear hcall hS hxr
        clear hkey hI hrd hlong hxb hbn hb
        go_wp2_with fail
        refine Hhcall.out.mono ?_
        rintro e w2 ⟨rfl, hw⟩
        dsimp only [duoV]
        obtain ⟨B, d, vs, L, hvl, hvb, h4, hput⟩ := grid_at (HI.out.grow hw) Hhxr.out
        obtain ⟨g', eg, cg⟩ := row_cell h4.pull1 hvb
        cases eg
        rw [ints_len] at cg hvb h4
        have h5 := (h4.alloc (.cells #[.int .i64 k] 3)).pull1
        have hrd : Rd (w2.alloc (.cells #[.int .i64 k] 3)) 1 (some ⟨w2.heap.size, 0, none⟩) 1 [.int .i64 k] := blk_rd (sz := 1) (n := 1) (cs := [.int .i64 k]) (h4.alloc (.cells #[.int .i64 k] 3)) (by simp) (fun j u hj => by simpa using hj)
        obtain ⟨i0, hi, hz0, hz1, hz2⟩ := info_parts intInfo
        have Hh5 := Lib.hid h5
        have Hhrd := Lib.hid hrd
        have Hhput := Lib.hid hput
        have Hhvb := Lib.hid hvb
        clear h5 hrd hput hvb
        clear h4 hw hvl HI
        go_wp2_with (at_builtin; refine wpList_append_rd rfl _ _ 30 rfl i0 _ 8 Try.underlying30 hi hz0 hz1 hz2 rfl (by decide) rfl Hh5.out rfl Hhrd.out ?c2 ?c3 ?c4 ?_)
        case c2 => exact one_one rfl
        case c3 => unfold maxLen; omega
        case c4 => omega
        intro A' c2 w' h6
        rw [← ints_snoc] at h6
        have h7 := h6.pull1.drop
        have hl : (ints (x ++ [(k : Int)])).length = x.length + 1 := by simp [ints]
        rw [← hl] at h7 ⊢
        obtain ⟨g9, e9', cv, fv⟩ := row_at h7.pull1 (by omega)
        cases e9'
        have cvb := cv b _ Hhvb.out
        have fvb := fv b
        have h8 := (row_set h7.pull1 b (by rw [(row_len h7.pull1).1]; omega) (.slice A' (ints (x ++ [(k : Int)])).length c2)).pull1
        have h9 := Hhput.out _ _ _ _ _ _ h8
        rw [rtRows_set, ← HhS.out] at h9
        have H9 := Lib.hid h9
        clear h6 h7 h8 h9 cv fv hl
        go_wp2
        go_roundw
        case rel => exact ⟨k + 1, by omega, by go_num, hsn, H9.out⟩
        case measure => simp [intOf]; omega
    · obtain rfl : k = n := by omega
      clear hI
      go_wp2
      go_ret2
      exact .inl ⟨hsh.out, b0, rfl, HI.out⟩
end Go.Proofs.Ytfkhnpkojnnfmaa
