/- A copy of bytes. -/
import Derived.Test.YtofidiolgjblcaaWHashPieces
import Derived.Test.YtofidiolgjblcaaRow
namespace Go.Proofs.Ytofidiolgjblcaa
open Go Go.RowKit
set_option linter.unusedVariables false
set_option linter.unusedSimpArgs false
theorem byteInfo : (Try.prog.info? 5).map (fun i => (i.zero, i.size, i.bytes)) = some (some (.int .u8 0), 1, 1) := by kernel_rfl
def byts (xs : List Nat) : List Value := xs.map fun (x : Nat) => Value.int .u8 (x : Int)
set_option maxHeartbeats 400000 in
set_option maxRecDepth 100000 in
theorem bytes_any (A : Option Addr) (xs : List Nat) (n c : Nat) (hn : xs.length = n) (hb : n ≤ 300) (w : World) (h : RdB w A xs) :
    Calls Try.prog 9 #[.slice A n c] w fun e w' => ∃ A' c', e = .returned (.slice A' n c') ∧ Inv w w' [RowA 5 1 A' n c' (byts xs)] := by
  have base : Inv w (w.alloc (.cells #[] 5)) [RowA 5 1 (some ⟨w.heap.size, 0, none⟩) 0 0 []] := row_mk ((Inv.refl w).alloc _) (Nat.le_refl _) (Nat.zero_le _) (by simp) (by simp)
  have H := Lib.hid base
  have HR := Lib.hid h
  clear base h
  by_cases h0 : n = 0
  · subst h0
    obtain rfl : xs = [] := List.eq_nil_of_length_eq_zero hn
    have hst : ∀ (ad : Addr) (w : World), (storeCells ad ([] : List Value)).run Try.prog w = .ok () w := fun _ _ => rfl
    cases A with
    | none =>
      go_enter Try.func9, Try.ntmps9
      go_wp2_with fail
      go_ret
      exact ⟨_, _, rfl, H.out⟩
    | some a =>
      obtain ⟨i0, hi, hz0, hz1, hz2⟩ := info_parts byteInfo
      go_enter Try.func9, Try.ntmps9
      go_wp2_with (at_builtin; refine wpList_append_row rfl _ _ 23 rfl i0 _ 1 Try.underlying23 hi hz0 hz1 hz2 rfl (by decide) rfl H.out a 0 c [] rfl rfl ?c1 ?c2 ?c3 ?c4 ?_)
      case c1 => intro j u hu; simp at hu
      case c2 => intro u hu; simp at hu
      case c3 => exact Nat.zero_le _
      case c4 => omega
      intro A' c'' w' h6
      have H6 := Lib.hid h6
      clear h6
      go_wp2
      go_ret
      exact ⟨_, _, rfl, H6.out⟩
  · obtain ⟨g, o, rfl, hc⟩ := HR.out.2.2 (by omega)
    have hlt : g < w.heap.size := World.block_lt_of_cell? _ _ (hc 0 _ (List.getElem?_eq_getElem (by omega)))
    have HC := Lib.hid hc
    clear hc
    obtain ⟨i0, hi, hz0, hz1, hz2⟩ := info_parts byteInfo
    go_enter Try.func9, Try.ntmps9
    go_wp2_with (at_builtin; refine wpList_append_row rfl _ _ 23 rfl i0 _ 1 Try.underlying23 hi hz0 hz1 hz2 rfl (by decide) rfl H.out ⟨g, o, none⟩ n c (byts xs) rfl ?c0 ?c1 ?c2 ?c3 ?c4 ?_)
    case c0 => simp [byts, hn]
    case c1 =>
      intro j u hu
      simp only [byts, List.getElem?_map, Option.map_eq_some_iff] at hu
      obtain ⟨x, hx, rfl⟩ := hu
      rw [addr_add]
      exact H.out.old_cell (HC.out j x hx)
    case c2 =>
      intro u hu
      simp only [byts, List.mem_map] at hu
      obtain ⟨x, _, rfl⟩ := hu
      rfl
    case c3 => unfold maxLen; omega
    case c4 => omega
    intro A' c'' w' h6
    have H6 := Lib.hid h6
    clear h6
    go_wp2
    go_ret
    exact ⟨_, _, rfl, H6.out⟩
theorem row_rdb {W w : World} {Rs : List Asn} {A : Option Addr} {n c : Nat} {xs : List Nat} {e : TypeId} (h : Inv W w (RowA e 1 A n c (byts xs) :: Rs)) (hl : xs.length ≤ 140737488355328) (hb : ∀ (j : Nat) x, xs[j]? = some x → x < 256) : RdB w A xs := by
  refine ⟨hl, hb, fun h0 => ?_⟩
  have hn := (row_len h).1
  simp [byts] at hn
  obtain ⟨g, rfl, hc, _⟩ := row_at h (by omega)
  exact ⟨g, 0, rfl, fun j x hj => by rw [Nat.zero_add]; exact hc j _ (by simp [byts, hj])⟩

set_option maxHeartbeats 1000000 in
set_option maxRecDepth 100000 in
theorem hashWithin_walk (p : Int) (A : Option Addr) (len cap : Nat) (zs : List Int) (w : World) (hp : (Lit.int .i64 p).wf = true) (hz : zs.length = len ∧ len ≤ cap ∧ cap ≤ maxLen ∧ len * 1 ≤ 140737488351232 ∧ InI .u8 w A zs) :
    Calls Try.prog 7 #[.int .i64 p, .slice A len cap] w (RetB w (.bool true)) := by
  obtain ⟨hlen, hlc, hcm, hby, hin⟩ := hz
  have hrd := few300_rd hin
  have hfl := few300_len zs hlen
  obtain ⟨xs, hxs⟩ : ∃ xs, few300 zs = xs := ⟨_, rfl⟩
  rw [hxs] at hrd hfl
  obtain ⟨n, hn⟩ : ∃ n, min len 300 = n := ⟨_, rfl⟩
  rw [hn] at hfl
  have hn3 : n ≤ 300 := by omega
  have hp2 : p < 9223372036854775808 := by
    simp [Lit.wf, IntKind.min, IntKind.max, IntKind.bits, IntKind.signed] at hp
    omega
  have HN := Lib.hid hn
  have HFL := Lib.hid hfl
  have HRD := Lib.hid hrd
  have HLC := Lib.hid hlc
  have HCM := Lib.hid hcm
  obtain ⟨v, hv⟩ : ∃ v, part p xs = v := ⟨_, rfl⟩
  have HV := Lib.hid hv
  have hpl : p < 1 ∧ v = 0 ∧ partE p = 2 ∨ 1 ≤ p ∧ 0 ≤ v ∧ v < p ∧ partE p = 0 := by
    subst hv
    by_cases h1 : p < 1
    · exact .inl ⟨h1, by unfold part; rw [if_pos h1], by unfold partE; rw [if_pos h1]⟩
    · have := part_lt h1 xs
      exact .inr ⟨by omega, this.1, this.2, by unfold partE; rw [if_neg h1]⟩
  clear hlen hin hrd hfl hxs hn hby hlc hcm hp hv
  obtain ⟨pe, hpe⟩ : ∃ x, partE p = x := ⟨_, rfl⟩
  rw [hpe] at hpl
  have HPE := Lib.hid hpe
  clear hpe
  rcases hpl with ⟨h1, rfl, rfl⟩ | ⟨h1, h2, h3, rfl⟩
  all_goals
    have hvv : ∀ v : Int, (v == v) = true := by simp
    go_enter Try.func7, Try.ntmps7
    go_wp2_with fail
    refine (works03 w).mono ?_
    rintro e w1 ⟨rfl, hb1⟩
    dsimp only
    have HI := Lib.hid ((Inv.refl w).grow hb1)
    have HR1 := Lib.hid (HRD.out.of hb1)
    clear hb1
    go_wp2_with fail
    refine (few_any A len cap HLC.out HCM.out _).mono ?_
    rintro e w1 ⟨rfl, rfl⟩
    rw [HN.out]
    dsimp only
    go_wp2_with fail
    refine (hash_part p hp2 A xs n cap HFL.out _ HR1.out).mono ?_
    rintro e w1 ⟨rfl, rfl⟩
    rw [HV.out, HPE.out]
    dsimp only
    go_wp2_with fail
    refine (bytes_any A xs n cap HFL.out hn3 _ HR1.out).mono ?_
    rintro e w2 ⟨A', c', rfl, h2⟩
    have HB := Lib.hid (h2.below)
    have HR2 := Lib.hid (row_rdb h2 HR1.out.1 HR1.out.2.1)
    clear h2
    dsimp only
    go_wp2_with fail
    refine (hash_part p hp2 A' xs n c' HFL.out _ HR2.out).mono ?_
    rintro e w2 ⟨rfl, rfl⟩
    rw [HV.out, HPE.out]
    dsimp only
    go_wp2
    go_ret
    exact ⟨rfl, (HI.out.grow HB.out).below⟩
end Go.Proofs.Ytofidiolgjblcaa
