/- Words for rows: plain facts; a2Low. -/
import Derived.Test.YtipelbhikomkiaaDrw
namespace Go.Proofs.Ytipelbhikomkiaa
open Go.RowKit
set_option linter.unusedVariables false
set_option linter.unusedSimpArgs false

/-- The first k rounds of a word on t stakes. -/
def rowN (s : ByteArray) (t i : Nat) : ByteArray := strOfNums (rowI s (i * t) t)
def rowsL (s : ByteArray) (t k : Nat) : List ByteArray := (List.range k).map (rowN s t)
theorem rowN_size (s : ByteArray) (t i : Nat) : (rowN s t i).size = t := by unfold rowN; rw [strOfNums_size, rowI_len]
theorem rowN_bt {s : ByteArray} {t i j : Nat} (hj : j < t) : bt (rowN s t i) j = bt s ((i * t + j) % s.size) := by
  unfold rowN
  have h := rowI_at (s := s) (f := i * t) hj
  have hb : bt s ((i * t + j) % s.size) < 256 := by unfold bt; exact UInt8.toNat_lt _
  have := bt_nums h (by omega) (by omega)
  omega
theorem rowsL_len (s : ByteArray) (t k : Nat) : (rowsL s t k).length = k := by simp [rowsL]
theorem rowsL_at {s : ByteArray} {t k i : Nat} (hi : i < k) : (rowsL s t k)[i]? = some (rowN s t i) := by
  unfold rowsL; rw [List.getElem?_map, List.getElem?_range hi]; rfl
theorem rowsL_succ (s : ByteArray) (t k : Nat) : rowsL s t (k + 1) = rowsL s t k ++ [rowN s t k] := by
  unfold rowsL; rw [List.range_succ, List.map_append]; rfl
theorem rowsL_size0 {s : ByteArray} {t k : Nat} (hk : 1 ≤ k) : size0 (rowsL s t k) = t := by
  rw [size0_eq (rowsL_at (show 0 < k by omega)), rowN_size]
theorem rowsL_mem {s : ByteArray} {t k : Nat} {x : ByteArray} (h : x ∈ rowsL s t k) : ∃ i, i < k ∧ x = rowN s t i := by
  unfold rowsL at h
  obtain ⟨i, hi, rfl⟩ := List.mem_map.1 h
  exact ⟨i, List.mem_range.1 hi, rfl⟩
theorem wd_bt {s : ByteArray} (h : Wd s) (i : Nat) : 97 ≤ bt s (i % s.size) ∧ bt s (i % s.size) ≤ 99 := h.rng _ (Nat.mod_lt _ (by have := h.l1; omega))
theorem rowsL_ok {s : ByteArray} {t k : Nat} (h : Wd s) (t3 : 3 ≤ t) (t60 : t ≤ 60) (k1 : 1 ≤ k) (k8 : k ≤ 8) : rowsB (rowsL s t k) = true := by
  unfold rowsB
  rw [rowsL_size0 k1, rowsL_len, Bool.and_eq_true, inB_iff]
  refine ⟨List.all_eq_true.2 fun x hx => ?_, by omega, by omega⟩
  obtain ⟨i, hi, rfl⟩ := rowsL_mem hx
  refine okRow_yes ?_ (rowN_size _ _ _) fun j hj => ?_
  · rw [rowN_size, inB_iff]; omega
  · rw [rowN_size] at hj
    rw [rowN_bt hj]
    have := wd_bt h (i * t + j)
    unfold okC
    rw [Bool.or_eq_true, inB_iff]
    omega
theorem rowsL_chr {s : ByteArray} {t k m : Nat} (t1 : 1 ≤ t) (hm : m < k * t) : chr (rowsL s t k) m = bt s (m % s.size) := by
  have hk : 1 ≤ k := by
    rcases Nat.eq_zero_or_pos k with h | h
    · subst h; omega
    · exact h
  have hi : m / t < k := (Nat.div_lt_iff_lt_mul (by omega)).2 hm
  have hj := Nat.mod_lt m (show t > 0 by omega)
  have h := chr_at (rowsL_at (s := s) (t := t) hi) (j := m % t) (by rw [rowsL_size0 hk]; exact hj)
  have e : m / t * t + m % t = m := by rw [Nat.mul_comm]; exact Nat.div_add_mod m t
  rw [rowsL_size0 hk, e, rowN_bt hj, e] at h
  exact h
/-- What the symbols so far leave in the word. -/
theorem stK_inv {ss : List ByteArray} {l : Nat} (l1 : 1 ≤ l) : ∀ {m : Nat} {wd : List Int}, (∀ j, j < m → 97 ≤ chr ss j ∧ chr ss j ≤ 122) → stK ss l m = some wd →
    (∀ j, j < m → wd[j % l]? = some (chr ss j : Int)) ∧ ∀ z ∈ wd, z = 0 ∨ (97 ≤ z ∧ z ≤ 122) := by
  intro m
  induction m with
  | zero =>
    intro wd _ h
    simp [stK] at h
    subst h
    exact ⟨fun j hj => absurd hj (by omega), fun z hz => .inl (List.eq_of_mem_replicate hz)⟩
  | succ m ih =>
    intro wd hc h
    rw [stK] at h
    obtain ⟨w0, h0, h1⟩ := Option.bind_eq_some_iff.1 h
    obtain ⟨i1, i2⟩ := ih (fun j hj => hc j (by omega)) h0
    have hl := stK_len h0
    have hm := hc m (by omega)
    have hlt := Nat.mod_lt m (show l > 0 by omega)
    unfold putC at h1
    rw [if_neg (by omega)] at h1
    split at h1
    · exact absurd h1 (by simp)
    · rename_i hno
      injection h1 with h1
      subst h1
      refine ⟨fun j hj => ?_, fun z hz => ?_⟩
      · rw [List.getElem?_set]
        by_cases e : m % l = j % l
        · rw [if_pos e, if_pos (by omega)]
          rcases Nat.lt_succ_iff_lt_or_eq.1 hj with h2 | rfl
          · have h3 := i1 j h2
            have h4 := hc j hj
            rw [List.getD_eq_getElem?_getD, e, h3] at hno
            simp only [Option.getD_some] at hno
            congr 1
            omega
          · rfl
        · rw [if_neg e]
          rcases Nat.lt_succ_iff_lt_or_eq.1 hj with h2 | rfl
          · exact i1 j h2
          · exact absurd rfl e
      · rcases List.mem_or_eq_of_mem_set hz with h2 | h2
        · exact i2 z h2
        · omega
theorem stK_own {ss : List ByteArray} {s : ByteArray} (h : Wd s) : ∀ {m : Nat}, (∀ j, j < m → chr ss j = bt s (j % s.size)) →
    ∃ wd, stK ss s.size m = some wd ∧ ∀ i z, wd[i]? = some z → z = 0 ∨ z = (bt s i : Int) := by
  intro m
  induction m with
  | zero =>
    intro _
    exact ⟨_, rfl, fun i z hz => .inl (List.eq_of_mem_replicate (List.mem_of_getElem? hz))⟩
  | succ m ih =>
    intro hc
    obtain ⟨wd, h0, h1⟩ := ih fun j hj => hc j (by omega)
    have hl := stK_len h0
    have hlt := Nat.mod_lt m (show s.size > 0 by have := h.l1; omega)
    have hu := List.getElem?_eq_getElem (show m % s.size < wd.length by omega)
    have hm := hc m (by omega)
    have hb := wd_bt h m
    have hz := h1 _ _ hu
    refine ⟨_, stK_put h0 hu (by omega) (by omega), fun i z hi => ?_⟩
    rw [List.getElem?_set] at hi
    split at hi
    · rename_i e
      rw [if_pos (by omega)] at hi
      injection hi with hi
      subst e hi
      right; omega
    · exact h1 i z hi
structure Shows (s x : ByteArray) (t k l : Nat) : Prop where
  size : x.size = l
  low : ∀ j, j < x.size → 97 ≤ bt x j ∧ bt x j ≤ 122
  row : ∀ i, i < k → rowV x t i = (rowN s t i, 0)
theorem forV_shows {s : ByteArray} {t k l : Nat} (h : Wd s) (t3 : 3 ≤ t) (t60 : t ≤ 60) (k1 : 1 ≤ k) (k8 : k ≤ 8) (l1 : 1 ≤ l) (l12 : l ≤ 12) (hf : (forV (rowsL s t k) l).2 = true) : Shows s (forV (rowsL s t k) l).1 t k l := by
  have hlen : (rowsL s t k).length * size0 (rowsL s t k) = k * t := by rw [rowsL_len, rowsL_size0 k1]
  cases hst : stK (rowsL s t k) l (k * t)
  · unfold forV at hf
    rw [hlen, hst] at hf
    simp at hf
  · rename_i wd
    have hv : (forV (rowsL s t k) l).1 = strOfNums (fin wd) := by unfold forV; rw [hlen, hst]
    rw [hv]
    have hc : ∀ j, j < k * t → 97 ≤ chr (rowsL s t k) j ∧ chr (rowsL s t k) j ≤ 122 := fun j hj => by
      rw [rowsL_chr (by omega) hj]; have := wd_bt h j; omega
    obtain ⟨i1, i2⟩ := stK_inv l1 hc hst
    have hl := stK_len hst
    have hfl : (fin wd).length = l := by simp [fin, hl]
    have hsz : (strOfNums (fin wd)).size = l := by rw [strOfNums_size, hfl]
    have hfm : ∀ z ∈ fin wd, 97 ≤ z ∧ z ≤ 122 := fun z hz => by
      unfold fin at hz
      obtain ⟨y, hy, rfl⟩ := List.mem_map.1 hz
      have := i2 y hy
      split <;> omega
    have hlow : ∀ j, j < (strOfNums (fin wd)).size → 97 ≤ bt (strOfNums (fin wd)) j ∧ bt (strOfNums (fin wd)) j ≤ 122 := fun j hj => by
      rw [hsz] at hj
      have hz := List.getElem?_eq_getElem (show j < (fin wd).length by omega)
      have hm := hfm _ (List.mem_of_getElem? hz)
      have := bt_nums hz (by omega) (by omega)
      omega
    refine ⟨hsz, hlow, fun i hi => ?_⟩
    have hok : okWord (strOfNums (fin wd)) = true := by
      rw [okWord_iff]
      refine ⟨?_, by omega, by omega⟩
      rw [List.all_eq_true]
      intro c hcc
      obtain ⟨j, hj, rfl⟩ := List.mem_iff_getElem.1 hcc
      have := hlow j (by simpa using hj)
      unfold bt at this
      rw [List.getD_eq_getElem?_getD, List.getElem?_eq_getElem hj] at this
      unfold isCol
      rw [inB_iff]
      simp only [Option.getD_some] at this
      omega
    have hcode : wCode (strOfNums (fin wd)) (t : Int) = 0 := wCode_0 hok ((inB_iff _ _ _).2 ⟨by omega, by omega⟩)
    have hin : inB (i : Int) 0 100 = true := (inB_iff _ _ _).2 ⟨by omega, by omega⟩
    have e : rowI (strOfNums (fin wd)) (i * t) t = rowI s (i * t) t := by
      unfold rowI
      refine List.map_congr_left fun j hj => ?_
      have hj := List.mem_range.1 hj
      have hlt : i * t + j < k * t := by
        have : (i + 1) * t ≤ k * t := Nat.mul_le_mul_right _ (by omega)
        rw [Nat.add_mul] at this
        omega
      rw [hsz]
      have h1 := i1 _ hlt
      have h2 : (fin wd)[(i * t + j) % l]? = some (chr (rowsL s t k) (i * t + j) : Int) := by
        unfold fin
        rw [List.getElem?_map, h1]
        have := hc _ hlt
        simp only [Option.map_some]
        rw [if_neg (by omega)]
      have h3 := hc _ hlt
      have h4 := bt_nums h2 (by omega) (by omega)
      rw [h4, rowsL_chr (by omega) hlt]
    unfold rowV rowN
    rw [if_pos hcode, if_pos hin]
    simp only [Int.toNat_natCast, e]
theorem forV_own {s : ByteArray} {t k : Nat} (h : Wd s) (t3 : 3 ≤ t) (k1 : 1 ≤ k) : (forV (rowsL s t k) s.size).2 = true := by
  have hlen : (rowsL s t k).length * size0 (rowsL s t k) = k * t := by rw [rowsL_len, rowsL_size0 k1]
  obtain ⟨wd, hst, _⟩ := stK_own (ss := rowsL s t k) h (m := k * t) fun j hj => rowsL_chr (by omega) hj
  unfold forV; rw [hlen, hst]
theorem swF_find {ss : List ByteArray} {L : Nat} (hL : (forV ss L).2 = true) : ∀ (f l : Nat), l ≤ L → L < l + f →
    ∃ r, l ≤ r ∧ r ≤ L ∧ swF ss f l = ((forV ss r).1, 0) ∧ (forV ss r).2 = true ∧ ∀ j, l ≤ j → j < r → (forV ss j).2 = false := by
  intro f
  induction f with
  | zero => intro l h1 h2; omega
  | succ f ih =>
    intro l h1 h2
    cases hf : (forV ss l).2
    · have hne : l ≠ L := fun e => by subst e; rw [hL] at hf; exact absurd hf (by simp)
      obtain ⟨r, r1, r2, r3, r4, r5⟩ := ih (l + 1) (by omega) (by omega)
      refine ⟨r, by omega, r2, by rw [swF_no hf]; exact r3, r4, fun j hj1 hj2 => ?_⟩
      by_cases e : j = l
      · subst e; exact hf
      · exact r5 j (by omega) hj2
    · exact ⟨l, Nat.le_refl _, h1, swF_yes hf, hf, fun j h3 h4 => by omega⟩
theorem short_facts {s : ByteArray} {t k : Nat} (h : Wd s) (t3 : 3 ≤ t) (t60 : t ≤ 60) (k1 : 1 ≤ k) (k8 : k ≤ 8) :
    ∃ x, swV (rowsL s t k) = (x, 0) ∧ 1 ≤ x.size ∧ x.size ≤ s.size ∧ Shows s x t k x.size ∧ ∀ j : Nat, 1 ≤ j → j < x.size → wfV (rowsL s t k) j = (⟨#[]⟩, 9) := by
  have hok := rowsL_ok h t3 t60 k1 k8
  have l1 := h.l1
  have l2 := h.l2
  obtain ⟨r, r1, r2, r3, r4, r5⟩ := swF_find (forV_own h t3 k1) 12 1 l1 (by omega)
  have hs := forV_shows h t3 t60 k1 k8 r1 (by omega) r4
  have hsz := hs.size
  refine ⟨(forV (rowsL s t k) r).1, by unfold swV; rw [if_pos hok]; exact r3, by omega, by omega, by rw [hsz]; exact hs, fun j j1 j2 => ?_⟩
  have hj := r5 j j1 (by omega)
  have hin : inB (j : Int) 1 12 = true := (inB_iff _ _ _).2 ⟨by omega, by omega⟩
  unfold wfV
  rw [if_pos hok, if_pos hin, Int.toNat_natCast, if_neg (by simp [hj])]
theorem own_facts {s : ByteArray} {t k : Nat} (h : Wd s) (t3 : 3 ≤ t) (t60 : t ≤ 60) (k1 : 1 ≤ k) (k8 : k ≤ 8) :
    ∃ x, wfV (rowsL s t k) (s.size : Int) = (x, 0) ∧ Shows s x t k s.size := by
  have hok := rowsL_ok h t3 t60 k1 k8
  have l1 := h.l1
  have l2 := h.l2
  have ho := forV_own h t3 k1
  have hs := forV_shows h t3 t60 k1 k8 l1 (by omega) ho
  have hin : inB (s.size : Int) 1 12 = true := (inB_iff _ _ _).2 ⟨by omega, by omega⟩
  refine ⟨_, ?_, hs⟩
  unfold wfV
  rw [if_pos hok, if_pos hin, Int.toNat_natCast, if_pos ho]
theorem rowV_wd {s : ByteArray} {t i : Nat} (h : Wd s) (t3 : 3 ≤ t) (t60 : t ≤ 60) (hi : i ≤ 100) : rowV s t i = (rowN s t i, 0) := by
  have hcode : wCode s (t : Int) = 0 := wCode_0 (wd_ok h) ((inB_iff _ _ _).2 ⟨by omega, by omega⟩)
  have hin : inB (i : Int) 0 100 = true := (inB_iff _ _ _).2 ⟨by omega, by omega⟩
  unfold rowV rowN
  rw [if_pos hcode, if_pos hin]
  simp only [Int.toNat_natCast]
theorem a2Low_any (s : ByteArray) (w : World) (hs : s.size ≤ 1000) (h : ∀ j, j < s.size → 97 ≤ bt s j ∧ bt s j ≤ 122) : Calls Try.prog 43 #[.string s] w fun e w' => e = .returned (.bool false) ∧ w = w' := by
  have H := Box0.mk h
  clear h
  go_enter Try.func43, Try.ntmps43
  go_wp2
  go_loop [3] (fun i => ∃ k : Nat, k ≤ s.size ∧ i = .int .i64 k) (fun i => s.size - (intOf i).toNat)
  case atStart => exact ⟨0, Nat.zero_le _, rfl⟩
  case round =>
    obtain ⟨k, hk, rfl⟩ := hrel
    by_cases hlt : k < s.size
    · have hc := H.out k hlt
      rw [← bt_eq hlt] at hc
      go_wp2
      go_round
      case rel => exact ⟨k + 1, by omega, by go_num⟩
      case measure => simp [intOf]; omega
    · obtain rfl : k = s.size := by omega
      go_wp2
      go_ret
      exact ⟨rfl, rfl⟩
end Go.Proofs.Ytipelbhikomkiaa
