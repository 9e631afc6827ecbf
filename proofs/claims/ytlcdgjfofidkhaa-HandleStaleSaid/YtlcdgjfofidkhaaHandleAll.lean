/- A book's handles: the iterator, and All where all generations may be. -/
import Derived.Test.YtlcdgjfofidkhaaHandle
import Derived.Test.YtlcdgjfofidkhaaIter
import Derived.Test.YtlcdgjfofidkhaaInfo
namespace Go.Proofs.Ytlcdgjfofidkhaa
open Go Go.RowKit Go.Shelf
attribute [local go_sem] Oper.semAt_some
set_option linter.unusedVariables false
set_option linter.unusedSimpArgs false
def hdEnc (x : Int × Int) : Array Value := #[.int .i64 x.1, .int .i64 x.2]
def hdl (gs : List Int) : List (Int × Int) := gs.mapIdx fun i g => hOf i g
theorem hdl_len (gs : List Int) : (hdl gs).length = gs.length := by simp [hdl]
theorem hdl_at {gs : List Int} {k : Nat} {g : Int} (h : gs[k]? = some g) : (hdl gs)[k]? = some (hOf k g) := by simp [hdl, h]
def hdIt (bb : Nat) (A : Option Addr) (n c : Nat) (gs : List Int) : List Asn := [Blk bb (.cells #[.slice A n c] 30 (0, 0)), RowA 3 1 A n c (ints gs)]
set_option maxHeartbeats 400000 in
theorem handles_any {W w : World} {Rs : List Asn} {A : Option Addr} {n c : Nat} {gs : List Int} (h : Inv W w (RowA 3 1 A n c (ints gs) :: Rs)) :
    Calls Try.prog 23 #[.slice A n c] w fun e w' => ∃ bb, e = .returned (.func (.func 24) #[] #[.pointer (some ⟨bb, 0, none⟩)]) ∧ Inv W w' (hdIt bb A n c gs ++ Rs) := by
  have fin := h.alloc (.cells #[.slice A n c] 30)
  have Hfin := Lib.hid fin
  clear fin
  clear h
  go_enter Try.func23, Try.ntmps23
  go_wp2
  go_ret
  exact ⟨_, rfl, Hfin.out⟩
set_option maxHeartbeats 1000000 in
set_option maxRecDepth 100000 in
theorem handles_iter (bb : Nat) (A : Option Addr) (n c : Nat) (gs : List Int) (hn : gs.length = n) (hnb : n ≤ 140737488355328) :
    Iter Try.prog 24 #[.pointer (some ⟨bb, 0, none⟩)] hdEnc (hdl gs) (fun _ => hdIt bb A n c gs) := by
  intro W l J Z w hY h0
  rw [hdl_len, hn]
  refine callsIn_of_wp Try.func24 rfl trivial ?_ rfl
  simp only [Try.ntmps24, List.size_toArray, List.length_cons, List.length_nil, Nat.reduceAdd, Nat.reduceSub, Array.replicate_succ, Array.replicate_zero, List.push_toArray, List.append_toArray, List.nil_append, List.cons_append]
  have hB : Inv W w (Blk bb (.cells #[.slice A n c] 30 (0, 0)) :: RowA 3 1 A n c (ints gs) :: J 0) := h0
  have k0 := hB.cell (off := 0) (v := .slice A n c) rfl
  have H0 := Lib.hid h0
  have HhY := Lib.hid hY
  have Hhn := Lib.hid hn
  clear hY hn
  clear h0 hB
  gi_wp2
  clear k0
  gi_loopw [7] (fun i wr => ∃ k : Nat, k ≤ n ∧ i = .int .i64 k ∧ Inv W wr (hdIt bb A n c gs ++ J k)) (fun i _ => n - (intOf i).toNat)
  case atStart => exact ⟨0, Nat.zero_le _, rfl, H0.out⟩
  case round =>
    obtain ⟨k, hk, rfl, hI⟩ := hrel
    have HI := Lib.hid hI
    by_cases hlt : k < n
    · obtain ⟨x, hx⟩ : ∃ x, gs[k]? = some x := ⟨_, List.getElem?_eq_getElem (by have := Hhn.out; omega)⟩
      have hB : Inv W wr (Blk bb (.cells #[.slice A n c] 30 (0, 0)) :: RowA 3 1 A n c (ints gs) :: J k) := hI
      obtain ⟨g, rfl, hc⟩ := row_cell hB.pull1 (ints_get hx)
      have hxx := hdl_at hx
      have Hhxx := Lib.hid hxx
      clear hxx
      clear hx hI hB
      gi_wp2_with fail
      refine ⟨trivial, rfl, CallsIn.mono (callsIn_wide.2 (of_any k x _)) ?_⟩
      rintro e w' ⟨rfl, rfl⟩
      dsimp only [duoV]
      obtain ⟨fn, tmps, assign, body, hy, hR⟩ := HhY.out k (hOf k x) wr Hhxx.out HI.out
      dsimp only [hdEnc] at hy
      gi_wp2_with fail
      refine ⟨rfl, hR.mono ?_⟩
      rintro e W' (⟨rfl, hJ'⟩ | ⟨rfl, hZ⟩)
      · have HhJ' := Lib.hid hJ'
        clear hJ'
        clear hy hR
        dsimp only
        gi_wp2
        go_roundw
        case rel => exact ⟨k + 1, by omega, by go_num, HhJ'.out⟩
        case measure => simp [intOf]; omega
      · have HhZ := Lib.hid hZ
        clear hZ
        clear hy hR
        dsimp only
        gi_wp2
        refine bodyPost_ret (results_none rfl _ _ _) rfl ?_
        exact ⟨⟨_, rfl⟩, .inr ⟨k, hlt, HhZ.out⟩⟩
    · obtain rfl : k = n := by omega
      clear hI
      gi_wp2
      go_end0
      exact ⟨⟨_, rfl⟩, .inl HI.out⟩
/-- All generations may be. -/
def Gens (gs : List Int) : Prop := gs.length ≤ 128 ∧ ∀ (k : Nat) g, gs[k]? = some g → 0 ≤ g ∧ g < 1099511627776
def hands (gs : List Int) : List Int := (hdl gs).map (·.1)
theorem hands_len (gs : List Int) : (hands gs).length = gs.length := by simp [hands, hdl]
theorem hands_at {gs : List Int} (hG : Gens gs) {k : Nat} {g : Int} (h : gs[k]? = some g) : (hands gs)[k]? = some (1 + (k : Int) + g * 128) := by
  have hk := (List.getElem?_eq_some_iff.1 h).1
  obtain ⟨g0, g1⟩ := hG.2 k g h
  have := hG.1
  unfold hands
  rw [List.getElem?_map, hdl_at h, hOf_ok (by omega) (by omega) g0 g1]
  rfl
theorem hdl_ok {gs : List Int} (hG : Gens gs) {k : Nat} {x : Int × Int} (h : (hdl gs)[k]? = some x) : x.2 = 0 := by
  have hk := (List.getElem?_eq_some_iff.1 h).1
  rw [hdl_len] at hk
  have hg := List.getElem?_eq_getElem hk
  obtain ⟨g0, g1⟩ := hG.2 k _ hg
  have := hG.1
  rw [hdl_at hg, hOf_ok (by omega) (by omega) g0 g1] at h
  cases h
  rfl
theorem hands_take {gs : List Int} {k : Nat} {x : Int × Int} (h : (hdl gs)[k]? = some x) : (hands gs).take (k + 1) = (hands gs).take k ++ [x.1] := by
  unfold hands
  rw [List.take_add_one, List.getElem?_map, h]
  rfl
set_option maxHeartbeats 1000000 in
set_option maxRecDepth 100000 in
theorem all_any {W w : World} {Rs : List Asn} {A : Option Addr} {n c : Nat} {gs : List Int} (hG : Gens gs) (hn : gs.length = n) (h : Inv W w (RowA 3 1 A n c (ints gs) :: Rs)) :
    Calls Try.prog 17 #[.slice A n c] w fun e w' => ∃ A' c', e = .returned (.tuple #[.slice A' n c', .int .i64 0]) ∧ Inv W w' (RowA 3 1 A' n c' (ints (hands gs)) :: RowA 3 1 A n c (ints gs) :: Rs) := by
  have hn8 : n ≤ 128 := by have := hG.1; omega
  have Hh := Lib.hid h
  have Hhn := Lib.hid hn
  clear h hn
  refine (callsIn_wide (n := 0)).1 ?_
  refine callsIn_of_wp_marks (n := 0) Try.func17 rfl trivial ?_ rfl
  simp only [Try.ntmps17, List.size_toArray, List.length_cons, List.length_nil, Nat.reduceAdd, Nat.reduceSub, Array.replicate_succ, Array.replicate_zero, List.push_toArray, List.append_toArray, List.nil_append, List.cons_append]
  refine wpIn_wide.2 ?_
  go_wp2_with fail
  have hL := (row_nil ((((Hh.out).alloc (.cells #[.slice none 0 0] 30)).alloc (.cells #[.int .i64 0] 24)).alloc (.cells #[.slice none 0 0] 30)) 3 1).pull1
  have hL2 := boxrow_shut (n := 0) hL
  have hL3 := hL2.pull3
  simp only [World.size_alloc] at hL3
  have HhL3 := Lib.hid hL3
  clear hL3
  clear hL hL2
  refine (handles_any HhL3.out).mono ?_
  rintro e w2 ⟨bb, rfl, hI⟩
  dsimp only
  have HI := Lib.hid hI
  clear hI
  obtain ⟨b0, hb0⟩ : ∃ x, w.heap.size = x := ⟨_, rfl⟩
  rw [hb0] at HI ⊢
  clear hb0 HhL3 Hh
  go_wp2_with fail
  refine wpIn_wide.1 (wp_range (gf := 24) (W := W) rfl (enters_of Try.func24 (by kernel_rfl) rfl) (handles_iter bb A n c gs Hhn.out (by omega)) (fun _ => rfl)
    (fun k => BoxRow (b0 + 1 + 1) 30 3 1 k (ints ((hands gs).take k)) :: Blk (b0 + 1) (.cells #[.int .i64 0] 24 (0, 0)) :: Blk b0 (.cells #[.slice none 0 0] 30 (0, 0)) :: Rs)
    (fun _ _ => [FalseA]) HI.out ?round ?done ?stop)
  case round =>
    rintro l k ⟨y, e⟩ w1 R hx hI
    have hk : k < n := by have := (List.getElem?_eq_some_iff.1 hx).1; rw [hdl_len] at this; have := Hhn.out; omega
    obtain rfl : e = 0 := hdl_ok hG hx
    have hs := hands_take hx
    have HI := Lib.hid hI
    have Hhs := Lib.hid hs
    clear hs
    clear hI hx
    dsimp only [hdEnc]
    gi_wp2
    refine ⟨[], HI.out, fun w3 R' h3 => ?_⟩
    clear HI
    obtain ⟨A', c', h5⟩ := boxrow_open (Inv.pull2 h3)
    clear h3
    have hc1 := h5.cell (off := 0) (v := .slice A' k c') rfl
    obtain ⟨i0, hi, hz0, hz1, hz2⟩ := info_parts intInfo
    have H5 := Lib.hid h5
    clear h5
    gi_wp2_with (gi_at_builtin; refine wpListIn_append_row rfl _ _ 30 rfl i0 _ 8 Try.underlying30 hi hz0 hz1 hz2 rfl (by decide) rfl (H5.out.alloc _).pull2 ⟨w3.heap.size, 0, none⟩ 1 1 [.int .i64 y] rfl rfl ?c1 ?c2 ?c3 ?c4 ?_)
    case c1 => exact new_one _ _ _
    case c2 => exact one_one rfl
    case c3 => exact len_ok (by omega)
    case c4 => omega
    intro A2 c2 w' h6
    have hcl := h6.pull2.cell (off := 0) (v := .slice A' k c') rfl
    have hfl := h6.pull2.frozen (off := 0)
    have H6 := Lib.hid h6
    clear h6
    gi_wp2
    have h8 := boxrow_shut (H6.out.pull2.set1 (.slice A2 (k + 1) c2)).pull2.drop
    rw [Hhs.out, ints_snoc]
    exact h8.push2
  case done =>
    intro D w3 hI
    rw [hdl_len, Hhn.out] at hI
    rw [List.take_of_length_le (by rw [hands_len, Hhn.out]; exact Nat.le_refl _)] at hI
    obtain ⟨A', c', h3⟩ := boxrow_open (Inv.pull3 hI)
    have hc1 := h3.cell (off := 0) (v := .slice A' n c') rfl
    have hK := h3.pull2.heap
    have f0 := (Inv.pull6 h3).frozen (off := 0)
    have f1 := (Inv.pull5 h3).frozen (off := 0)
    have k0 := (Inv.pull6 h3).cell (off := 0) (v := .slice none 0 0) rfl
    have k1 := (Inv.pull5 h3).cell (off := 0) (v := .int .i64 0) rfl
    have H3 := Lib.hid h3
    clear h3 hI
    have h4 := Inv.pull4 ((Inv.pull6 ((Inv.pull6 H3.out).set1 (.slice A' n c'))).set1 (.int .i64 0))
    have hK4 := h4.heap
    have h5 := h4.putObj (.deferred none)
    have c0 := (Inv.pull2 h5).cell (off := 0) (v := .slice A' n c') rfl
    have c1 := (Inv.pull1 h5).cell (off := 0) (v := .int .i64 0) rfl
    have H5 := Lib.hid h5
    clear h4 h5
    go_wp2
    refine ⟨by simp, .inl ⟨_, _, rfl, run_takeDeferred hK4, ?_⟩⟩
    refine ⟨.tuple #[.slice A' n c', .int .i64 0], ?_, A', c', rfl, H5.out.drop.drop.drop.drop.pull1.drop⟩
    simp [results, go_sem, c0, c1]
  case stop =>
    intro D c k w3 hk hI
    exact (Inv.falso hI.drop).elim
end Go.Proofs.Ytlcdgjfofidkhaa
