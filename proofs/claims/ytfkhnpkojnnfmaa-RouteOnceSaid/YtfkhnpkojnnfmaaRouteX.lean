/- How unevenly keys go: Spread, the program's and the reference's; the chapter's example. -/
import Derived.Test.YtfkhnpkojnnfmaaRouteT
import Derived.Test.YtfkhnpkojnnfmaaSame
namespace Go.Proofs.Ytfkhnpkojnnfmaa
open Go Go.RowKit
set_option linter.unusedVariables false
set_option linter.unusedSimpArgs false
def lowTo (n : Nat) (l : List (List Int)) (k : Nat) : Nat := (l.take k).foldl (fun a x => min a x.length) n
def highTo (n : Nat) (l : List (List Int)) (k : Nat) : Nat := (l.take k).foldl (fun a x => max a x.length) n
theorem lowTo_succ {n : Nat} {l : List (List Int)} {k : Nat} {x : List Int} (h : l[k]? = some x) : lowTo n l (k + 1) = min (lowTo n l k) x.length := by
  obtain ⟨hl, hx⟩ := List.getElem?_eq_some_iff.1 h
  unfold lowTo
  rw [List.take_succ_eq_append_getElem hl, List.foldl_append, hx]
  rfl
theorem highTo_succ {n : Nat} {l : List (List Int)} {k : Nat} {x : List Int} (h : l[k]? = some x) : highTo n l (k + 1) = max (highTo n l k) x.length := by
  obtain ⟨hl, hx⟩ := List.getElem?_eq_some_iff.1 h
  unfold highTo
  rw [List.take_succ_eq_append_getElem hl, List.foldl_append, hx]
  rfl
theorem lowTo_le (n : Nat) (l : List (List Int)) (k : Nat) : lowTo n l k ≤ n := by
  induction k with
  | zero => simp [lowTo]
  | succ k ih =>
    cases h : l[k]? with
    | none => unfold lowTo at ih ⊢; rw [List.take_add_one, h]; simpa using ih
    | some x => rw [lowTo_succ h]; omega
theorem highTo_le (n m : Nat) (l : List (List Int)) (hm : ∀ x ∈ l, x.length ≤ n) (h0 : m ≤ n) (k : Nat) : highTo m l k ≤ n := by
  induction k with
  | zero => simpa [highTo] using h0
  | succ k ih =>
    cases h : l[k]? with
    | none => unfold highTo at ih ⊢; rw [List.take_add_one, h]; simpa using ih
    | some x => rw [highTo_succ h]; have := hm x (List.mem_of_getElem? h); omega
/-- What Spread answers, where Sort does. -/
def spread (p : Nat) (ks : List (List Nat)) (n : Nat) : Int := (highTo 0 (rtSort p ks n) p : Int) - lowTo n (rtSort p ks n) p
def SpreadPost (W : World) (A : Option Addr) (n c : Nat) (ks : List (List Nat)) (p : Nat) (Rs : List Asn) (e : Ending) (w' : World) : Prop :=
  ((ShortTo ks n ∧ e = .returned (.tuple #[.int .i64 (spread p ks n), .int .i64 0])) ∨ (¬ ShortTo ks n ∧ e = .returned (.tuple #[.int .i64 0, .int .i64 3]))) ∧ Inv W w' (KeysA A n c ks :: Rs)
theorem rows_at {W w : World} {Rs : List Asn} {g : Nat} {p : Nat} {l : List (List Int)} (h : Inv W w (GridA 30 3 (some ⟨g, 0, none⟩) p p (rtRows l) :: Rs)) {i : Nat} {x : List Int} (hx : l[i]? = some x) :
    ∃ B d, w.cell? ⟨g, i, none⟩ = some (.slice B x.length d) ∧ (x.length ≤ 140737488355328 → RdI w B x) ∧ x.length ≤ d ∧ d ≤ maxLen := by
  have hr : (rtRows l)[i]? = some (ints x) := by unfold rtRows; rw [List.getElem?_map, hx]; rfl
  obtain ⟨B, d, vs, L, _, hv, h2, _⟩ := grid_at h hr
  obtain ⟨g', eg, hc⟩ := row_cell h2.pull1 hv
  cases eg
  have := row_len h2
  rw [ints_len] at hc this
  exact ⟨B, d, hc, fun hb => row_rdi h2 hb, this.2.1, this.2.2⟩
set_option maxHeartbeats 1000000 in
set_option maxRecDepth 100000 in
theorem rt_spread {W w : World} {Rs : List Asn} {A : Option Addr} {n c : Nat} {ks : List (List Nat)} (p : Nat) (hb : rtMay p = 0) (hm : n ≤ 256) (hk : KeysOk ks) (h : Inv W w (KeysA A n c ks :: Rs)) :
    Calls Try.prog 17 #[.int .i64 p, .slice A n c] w (SpreadPost W A n c ks p Rs) := by
  have hs := rt_sort p hb hm hk h
  obtain ⟨p1, p2⟩ := rtMay_ok hb
  have Hhs := Lib.hid hs
  clear hs
  clear h hk hb
  go_enter Try.func17, Try.ntmps17
  go_wp2_with fail
  refine Hhs.out.mono ?_
  rintro e w1 (⟨hsh, g, rfl, h1⟩ | ⟨hsh, rfl, h1⟩)
  · dsimp only
    have Hhsh := Lib.hid hsh
    clear hsh
    have H1 := Lib.hid h1
    clear h1 Hhs
    as_aux_lemma =>
    go_wp2_with fail
    go_loopw [8, 9, 25] (fun a b i wr => ∃ (k x y : Nat), (k ≤ p ∧ x ≤ 256 ∧ y ≤ 256) ∧ a = .int .i64 x ∧ b = .int .i64 y ∧ i = .int .i64 k ∧ wr = w1 ∧ Hid (lowTo n (rtSort p ks n) k = x ∧ highTo 0 (rtSort p ks n) k = y)) (fun _ _ i _ => p - (intOf i).toNat)
    case atStart => exact ⟨0, n, 0, ⟨by omega, by omega, by omega⟩, rfl, rfl, rfl, rfl, Lib.hid ⟨rfl, rfl⟩⟩
    case round =>
      obtain ⟨k, x, y, ⟨hkp, hx, hy⟩, rfl, rfl, rfl, rfl, hlh⟩ := hrel
      by_cases hlt : k < p
      · obtain ⟨z, hz⟩ : ∃ z, (rtSort p ks n)[k]? = some z := ⟨_, List.getElem?_eq_getElem (by rw [rtSort_len]; exact hlt)⟩
        have hzl := rtSort_le p ks n k z hz
        obtain ⟨B, d, hc, _, _, _⟩ := rows_at H1.out hz
        have hl2 : lowTo n (rtSort p ks n) (k + 1) = min x z.length ∧ highTo 0 (rtSort p ks n) (k + 1) = max y z.length := by rw [lowTo_succ hz, highTo_succ hz, hlh.out.1, hlh.out.2]; exact ⟨rfl, rfl⟩
        have Hhl2 := Lib.hid hl2
        clear hl2
        clear hz
        go_wp2
        all_goals
          go_roundw
          case rel => exact ⟨k + 1, min x z.length, max y z.length, ⟨by omega, by omega, by omega⟩, by (congr 1; omega), by (congr 1; omega), by go_num, trivial, Hhl2⟩
          case measure => simp [intOf]; omega
      · obtain rfl : k = p := by omega
        have hsp : spread k ks n = (y : Int) - x := by unfold spread; rw [hlh.out.1, hlh.out.2]
        have Hhsp := Lib.hid hsp
        clear hsp
        go_wp2
        go_ret2
        exact ⟨.inl ⟨Hhsh.out, by rw [Hhsp.out]; rfl⟩, H1.out.drop⟩
  · dsimp only
    have Hhsh := Lib.hid hsh
    clear hsh
    have H1 := Lib.hid h1
    clear h1 Hhs
    as_aux_lemma =>
    go_wp2
    go_ret2
    exact ⟨.inr ⟨Hhsh.out, rfl⟩, H1.out⟩
theorem low_first {n : Nat} {l : List (List Int)} {x : List Int} (h : l[0]? = some x) (hn : x.length ≤ n) (hl : 0 < l.length) : ∀ k, lowTo x.length l (k + 1) = lowTo n l (k + 1) := by
  intro k
  cases l with
  | nil => simp at h
  | cons y l =>
    simp at h
    subst h
    simp only [lowTo, List.take_succ_cons, List.foldl_cons]
    congr 1
    omega
theorem high_first {l : List (List Int)} {x : List Int} (h : l[0]? = some x) : ∀ k, highTo x.length l (k + 1) = highTo 0 l (k + 1) := by
  intro k
  cases l with
  | nil => simp at h
  | cons y l =>
    simp at h
    subst h
    simp only [highTo, List.take_succ_cons, List.foldl_cons]
    congr 1
    omega
set_option maxHeartbeats 1000000 in
set_option maxRecDepth 100000 in
theorem rt_rspread {W w : World} {Rs : List Asn} {A : Option Addr} {n c : Nat} {ks : List (List Nat)} (p : Nat) (hb : rtMay p = 0) (hm : n ≤ 256) (hk : KeysOk ks) (h : Inv W w (KeysA A n c ks :: Rs)) :
    Calls Try.prog 18 #[.int .i64 p, .slice A n c] w (SpreadPost W A n c ks p Rs) := by
  have hs := rt_rsort p hb hm hk h
  obtain ⟨p1, p2⟩ := rtMay_ok hb
  have hp0 : 0 < p := by omega
  have Hhs := Lib.hid hs
  clear hs
  clear h hk hb
  go_enter Try.func18, Try.ntmps18
  go_wp2_with fail
  refine Hhs.out.mono ?_
  rintro e w1 (⟨hsh, g, rfl, h1⟩ | ⟨hsh, rfl, h1⟩)
  · dsimp only
    obtain ⟨z0, hz0⟩ : ∃ z, (rtSort p ks n)[0]? = some z := ⟨_, List.getElem?_eq_getElem (by rw [rtSort_len]; exact hp0)⟩
    have hzl0 := rtSort_le p ks n 0 z0 hz0
    obtain ⟨B, d, hc0, _, _, _⟩ := rows_at h1 hz0
    have hfl := low_first hz0 hzl0 (by rw [rtSort_len]; exact hp0)
    have hfh := high_first hz0
    have H1 := Lib.hid h1
    have Hhsh := Lib.hid hsh
    have Hhfl := Lib.hid hfl
    have Hhfh := Lib.hid hfh
    clear hsh hfl hfh
    clear h1 Hhs hz0
    as_aux_lemma =>
    go_wp2_with fail
    go_quiet (fail)
    go_wp2_with fail
    clear hc0
    go_loopw [8, 9, 10] (fun a b i wr => ∃ (k x y m : Nat), (k ≤ p ∧ x ≤ 256 ∧ y ≤ 256) ∧ a = .int .i64 x ∧ b = .int .i64 y ∧ i = .int .i64 k ∧ wr = w1.drewN m ∧ Hid (lowTo z0.length (rtSort p ks n) k = x ∧ highTo z0.length (rtSort p ks n) k = y)) (fun _ _ i _ => p - (intOf i).toNat)
    case atStart => exact ⟨0, z0.length, z0.length, _, ⟨by omega, by omega, by omega⟩, rfl, rfl, rfl, rfl, Lib.hid ⟨rfl, rfl⟩⟩
    case round =>
      obtain ⟨k, x, y, m, ⟨hkp, hx, hy⟩, rfl, rfl, rfl, rfl, hlh⟩ := hrel
      by_cases hlt : k < p
      · obtain ⟨z, hz⟩ : ∃ z, (rtSort p ks n)[k]? = some z := ⟨_, List.getElem?_eq_getElem (by rw [rtSort_len]; exact hlt)⟩
        have hzl := rtSort_le p ks n k z hz
        obtain ⟨B, d, hc, _, _, _⟩ := rows_at H1.out hz
        have hl2 : lowTo z0.length (rtSort p ks n) (k + 1) = min x z.length ∧ highTo z0.length (rtSort p ks n) (k + 1) = max y z.length := by rw [lowTo_succ hz, highTo_succ hz, hlh.out.1, hlh.out.2]; exact ⟨rfl, rfl⟩
        have k0 : (0 : Int) ≤ k := by omega
        have k1 : (k : Int) < p := by omega
        have Hhl2 := Lib.hid hl2
        clear hl2
        clear hz
        go_wp2
        go_quiet (fail)
        go_wp2
        all_goals
          go_roundw
          case rel => exact ⟨k + 1, min x z.length, max y z.length, _, ⟨by omega, by omega, by omega⟩, by (congr 1; omega), by (congr 1; omega), by go_num, rfl, Hhl2⟩
          case measure => simp [intOf]; omega
      · obtain rfl : k = p := by omega
        have hsp : spread k ks n = (y : Int) - x := by
          obtain ⟨j, rfl⟩ : ∃ j, k = j + 1 := ⟨k - 1, by omega⟩
          unfold spread
          rw [← Hhfl.out, ← Hhfh.out, hlh.out.1, hlh.out.2]
        have Hhsp := Lib.hid hsp
        clear hsp
        go_wp2
        go_ret2
        exact ⟨.inl ⟨Hhsh.out, by rw [Hhsp.out]; rfl⟩, (H1.out.drewN _).drop⟩
  · dsimp only
    have Hhsh := Lib.hid hsh
    clear hsh
    have H1 := Lib.hid h1
    clear h1 Hhs
    as_aux_lemma =>
    go_wp2
    go_ret2
    exact ⟨.inr ⟨Hhsh.out, rfl⟩, H1.out⟩
theorem bytes1 {W w : World} {Rs : List Asn} (h : Inv W w Rs) (x : Nat) : Inv W (w.alloc (.cells #[.int .u8 x] 5)) (RowA 5 1 (some ⟨w.heap.size, 0, none⟩) 1 1 (byts [x]) :: Rs) :=
  row_mk (h.alloc _) (Nat.le_refl _) (by decide) (by simp) (by simp [byts])
set_option maxHeartbeats 600000 in
set_option maxRecDepth 100000 in
theorem works11 (w : World) : Calls Try.prog 7 #[] w (RetB w (.bool true)) := by
  have e1 : rtSort 3 [[0], [1], [2], [3]] 4 = [[0], [3], [1, 2]] := by decide +kernel
  have hk : KeysOk [[0], [1], [2], [3]] := by
    refine ⟨by decide, fun i k hk => ?_⟩
    match i, hk with
    | 0, hk => simp at hk; subst hk; exact ⟨by decide, fun j x hj => by cases j with | zero => simp at hj; omega | succ j => simp at hj⟩
    | 1, hk => simp at hk; subst hk; exact ⟨by decide, fun j x hj => by cases j with | zero => simp at hj; omega | succ j => simp at hj⟩
    | 2, hk => simp at hk; subst hk; exact ⟨by decide, fun j x hj => by cases j with | zero => simp at hj; omega | succ j => simp at hj⟩
    | 3, hk => simp at hk; subst hk; exact ⟨by decide, fun j x hj => by cases j with | zero => simp at hj; omega | succ j => simp at hj⟩
  have hs : ShortTo [[0], [1], [2], [3]] 4 := by
    intro i k hi hk
    match i, hk with
    | 0, hk => simp at hk; subst hk; decide
    | 1, hk => simp at hk; subst hk; decide
    | 2, hk => simp at hk; subst hk; decide
    | 3, hk => simp at hk; subst hk; decide
  have h4 := bytes1 (bytes1 (bytes1 (bytes1 (Inv.refl w) 0) 1) 2) 3
  simp only [World.size_alloc] at h4
  have h5 := row_mk (n := 4) (c := 4) (sz := 1) (xs := [.slice (some ⟨w.heap.size, 0, none⟩) 1 1, .slice (some ⟨w.heap.size + 1, 0, none⟩) 1 1, .slice (some ⟨w.heap.size + 1 + 1, 0, none⟩) 1 1, .slice (some ⟨w.heap.size + 1 + 1 + 1, 0, none⟩) 1 1]) (h4.alloc (.cells #[.slice (some ⟨w.heap.size, 0, none⟩) 1 1, .slice (some ⟨w.heap.size + 1, 0, none⟩) 1 1, .slice (some ⟨w.heap.size + 1 + 1, 0, none⟩) 1 1, .slice (some ⟨w.heap.size + 1 + 1 + 1, 0, none⟩) 1 1] 34)) (Nat.le_refl _) (by decide) (by simp) (by simp)
  simp only [World.size_alloc] at h5
  have h6 := h5.pull1.push4.pull1.push3.pull1.push2
  have h7 : Inv w _ [KeysA (some ⟨w.heap.size + 1 + 1 + 1 + 1, 0, none⟩) 4 4 [[0], [1], [2], [3]]] := grid_shut (ks := [(some ⟨w.heap.size, 0, none⟩, 1), (some ⟨w.heap.size + 1, 0, none⟩, 1), (some ⟨w.heap.size + 1 + 1, 0, none⟩, 1), (some ⟨w.heap.size + 1 + 1 + 1, 0, none⟩, 1)]) (xss := [[0], [1], [2], [3]].map byts) rfl h6
  have hsort := rt_sort 3 (by decide) (by decide) hk h7
  have Hhsort := Lib.hid hsort
  have He1 := Lib.hid e1
  have Hhs := Lib.hid hs
  clear hsort e1 hs
  clear h4 h5 h6 h7 hk
  go_enter Try.func7, Try.ntmps7
  go_wp2_with fail
  refine Hhsort.out.mono ?_
  rintro e w1 (⟨_, g, rfl, h1⟩ | ⟨hn, _⟩)
  · dsimp only
    have HI := Lib.hid h1
    clear h1 Hhsort
    obtain ⟨B, d, hc, hr, hd1, hd2⟩ := rows_at HI.out (i := 0) (x := [0]) (by rw [He1.out]; rfl)
    have hr := hr (by decide)
    unfold maxLen at hd2
    have hb := (HI.out.alloc (.cells #[.int .i64 0] 3)).pull1
    have hra := hr.of ((Below.refl _ _).alloc (Nat.le_refl _) (.cells #[.int .i64 0] 3))
    have hrb := blk_rdi (xs := [0]) (HI.out.alloc (.cells #[.int .i64 0] 3)) (fun j y hj => by match j, hj with | 0, hj => simp at hj; subst hj; rfl | 1, hj => first | (simp at hj; subst hj; rfl) | simp at hj) (by decide)
    have hcall := same_any B _ [0] [0] 1 1 d 1 rfl rfl _ hra hrb
    rw [decide_eq_true rfl] at hcall
    have Hhcall := Lib.hid hcall
    have Hhb := Lib.hid hb
    clear hcall hb
    clear hr hra hrb
    go_wp2_with fail
    (with_reducible refine Hhcall.out.mono ?_)
    rintro e w9 ⟨rfl, m, hw9⟩
    dsimp only
    clear Hhcall hc HI
    have HI := Lib.hid (hw9 ▸ Inv.drewN Hhb.out.pull1.drop m)
    clear Hhb hw9
    obtain ⟨B, d, hc, hr, hd1, hd2⟩ := rows_at HI.out (i := 1) (x := [3]) (by rw [He1.out]; rfl)
    have hr := hr (by decide)
    unfold maxLen at hd2
    have hb := (HI.out.alloc (.cells #[.int .i64 3] 3)).pull1
    have hra := hr.of ((Below.refl _ _).alloc (Nat.le_refl _) (.cells #[.int .i64 3] 3))
    have hrb := blk_rdi (xs := [3]) (HI.out.alloc (.cells #[.int .i64 3] 3)) (fun j y hj => by match j, hj with | 0, hj => simp at hj; subst hj; rfl | 1, hj => first | (simp at hj; subst hj; rfl) | simp at hj) (by decide)
    have hcall := same_any B _ [3] [3] 1 1 d 1 rfl rfl _ hra hrb
    rw [decide_eq_true rfl] at hcall
    have Hhcall := Lib.hid hcall
    have Hhb := Lib.hid hb
    clear hcall hb
    clear hr hra hrb
    go_wp2_with fail
    (with_reducible refine Hhcall.out.mono ?_)
    rintro e w9 ⟨rfl, m, hw9⟩
    dsimp only
    clear Hhcall hc HI
    have HI := Lib.hid (hw9 ▸ Inv.drewN Hhb.out.pull1.drop m)
    clear Hhb hw9
    obtain ⟨B, d, hc, hr, hd1, hd2⟩ := rows_at HI.out (i := 2) (x := [1, 2]) (by rw [He1.out]; rfl)
    have hr := hr (by decide)
    unfold maxLen at hd2
    have hb := (HI.out.alloc (.cells #[.int .i64 1, .int .i64 2] 3)).pull1
    have hra := hr.of ((Below.refl _ _).alloc (Nat.le_refl _) (.cells #[.int .i64 1, .int .i64 2] 3))
    have hrb := blk_rdi (xs := [1, 2]) (HI.out.alloc (.cells #[.int .i64 1, .int .i64 2] 3)) (fun j y hj => by match j, hj with | 0, hj => simp at hj; subst hj; rfl | 1, hj => first | (simp at hj; subst hj; rfl) | simp at hj) (by decide)
    have hcall := same_any B _ [1, 2] [1, 2] 2 2 d 2 rfl rfl _ hra hrb
    rw [decide_eq_true rfl] at hcall
    have Hhcall := Lib.hid hcall
    have Hhb := Lib.hid hb
    clear hcall hb
    clear hr hra hrb
    go_wp2_with fail
    (with_reducible refine Hhcall.out.mono ?_)
    rintro e w9 ⟨rfl, m, hw9⟩
    dsimp only
    clear Hhcall hc HI
    have HI := Lib.hid (hw9 ▸ Inv.drewN Hhb.out.pull1.drop m)
    clear Hhb hw9
    go_wp2
    go_ret
    exact ⟨rfl, HI.out.below⟩
  · exact absurd Hhs.out hn
end Go.Proofs.Ytfkhnpkojnnfmaa
