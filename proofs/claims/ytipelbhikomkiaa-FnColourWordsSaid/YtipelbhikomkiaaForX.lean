/- wordFor: the walk. -/
import Derived.Test.YtipelbhikomkiaaForW
namespace Go.Proofs.Ytipelbhikomkiaa
open Go.RowKit
set_option linter.unusedVariables false
set_option linter.unusedSimpArgs false
theorem wordFor_any (A : Option Addr) (n c : Nat) (ss : List ByteArray) (l : Nat) (w : World) (h : Strs w A n ss) (hr : rowsB ss = true) (l1 : 1 ≤ l) (l2 : l ≤ 12) : Calls Try.prog 59 #[.slice A n c, .int .i64 l] w (ForPost ss l w) := by
  obtain ⟨i0, hi0, hz0, hz1, hz2⟩ := info_parts info_u8
  obtain ⟨n1, n8, sz3, sz60, hsz⟩ := rowsB_facts h.1 hr
  have HS := Box0.mk hsz
  have HL := Lib.hid h.1
  clear hsz hr
  generalize hz : size0 ss = sz at *
  have HZ := Lib.hid hz
  clear hz
  have hbytes : i0.bytes * l ≤ 281474976710656 := by rw [hz2]; omega
  have hmx : l ≤ maxLen := by unfold maxLen; omega
  have e0 : (madeCells #[Value.int .u8 0] (l * 1)).toList = (List.replicate l (0 : Int)).map (Value.int .u8) := by
    rw [toList_madeCells_one]; simp
  have E0 := Lib.hid e0
  clear e0
  go_enter Try.func59, Try.ntmps59
  go_wp2_with (at_make; refine wpList_make_full _ rfl _ _ _ rfl w.heap.size 5 i0 (.int .u8 0) 1 Try.underlying47 hi0 hz0 hz1 .i64 .i64 l l l rfl rfl rfl rfl hbytes hmx (Nat.le_refl _) ?_; intro w1 hown hg)
  have hb1 : Below w.heap.size w w1 := (Below.refl _ _).grown hg (Nat.le_refl _) (by simp)
  replace hown : OwnB w1 w.heap.size (.slice (some ⟨w.heap.size, 0, none⟩) l l) l (List.replicate l 0) := by
    show World.ownsRow _ _ _ _ _ _ _
    rw [← E0.out]; exact hown
  go_loopw [7, 17] (fun a i wr => ∃ (k t : Nat), k ≤ n ∧ i = .int .i64 k ∧ a = .int .i64 t ∧ Box0 (t = k * sz) ∧ t ≤ 480 ∧ (∃ wd, stK ss l t = some wd ∧ OwnB wr w.heap.size (.slice (some ⟨w.heap.size, 0, none⟩) l l) l wd) ∧ Below w.heap.size w wr) (fun _ i _ => n - (intOf i).toNat)
  case atStart => exact ⟨0, 0, Nat.zero_le _, rfl, rfl, ⟨by simp⟩, by omega, ⟨_, rfl, hown⟩, hb1⟩
  case round =>
    clear hown hb1 hg
    obtain ⟨k, t, hk, rfl, rfl, HT, ht, ⟨wd, hst, hown⟩, hB⟩ := hrel
    by_cases hlt : k < n
    · obtain ⟨b, off, s, rfl, hblt, hs, hcw⟩ := h.at_ hlt
      have hcell := keepc hB hcw
      have hss := HS.out k s hs
      have hch : ∀ j, j < sz → chr ss (t + j) = bt s j := fun j hj => by
        have := chr_at hs (j := j) (by rw [HZ.out]; exact hj)
        rw [HZ.out, ← HT.out] at this
        exact this
      have HC := Box0.mk hch
      have htk : t + sz ≤ 480 := by
        have h1 : t = k * sz := HT.out
        have h2 : k * sz ≤ 7 * sz := Nat.mul_le_mul_right _ (by omega)
        omega
      clear hs hch
      go_wp2_with fail
      go_loopw [7, 23] (fun a i wi => ∃ j m : Nat, j ≤ sz ∧ m ≤ 480 ∧ Box0 (m = t + j) ∧ i = .int .i64 j ∧ a = .int .i64 m ∧ (∃ wd, stK ss l m = some wd ∧ OwnB wi w.heap.size (.slice (some ⟨w.heap.size, 0, none⟩) l l) l wd) ∧ Below w.heap.size w wi) (fun _ i _ => sz - (intOf i).toNat)
      case atStart => exact ⟨0, t, Nat.zero_le _, ht, ⟨rfl⟩, rfl, rfl, ⟨_, hst, hown⟩, hB⟩
      case round =>
        clear hst hown hB hcell
        obtain ⟨j, m, hj, hm, HM, rfl, rfl, ⟨wd, hst, hown⟩, hB⟩ := hrel
        have hcell := keepc hB hcw
        by_cases hlj : j < sz
        · have hjs : j < s.size := by omega
          have hmt : m + 1 ≤ 480 := by have := HM.out; omega
          obtain ⟨ra0, ra1, ra2, ra3⟩ := mod_facts (k := m) l1
          obtain ⟨u, hu, hcu⟩ := ownB_at hown ra3
          have hfr := World.ownsRow.frozenAt hown (m % l)
          have hcj : chr ss m = bt s j := by rw [HM.out]; exact HC.out j hlj
          rw [← bt_eq hjs] at hcj
          have HM1 : Box0 (m + 1 = t + (j + 1)) := ⟨by have := HM.out; omega⟩
          by_cases c0 : ((s[j]'hjs).toNat : Int) = 63
          · have e1 : (((s[j]'hjs).toNat : Int) != 63) = false := by rw [c0]; rfl
            have H1 := Box0.mk (stK_skip hst (by omega))
            clear hst hcj c0
            go_wp2
            go_quiet (fail)
            go_wp2
            go_roundw
            case rel => exact ⟨j + 1, m + 1, by omega, by omega, HM1, by go_num, by go_num, ⟨_, H1.out, hown⟩, below_drewN hB _⟩
            case measure => simp [intOf]; omega
          have e1 : (((s[j]'hjs).toNat : Int) != 63) = true := by rw [bne_iff_ne]; exact c0
          by_cases u0 : u = 0
          · subst u0
            have H1 := Box0.mk (stK_put hst hu (by omega) (.inl rfl))
            rw [hcj] at H1
            clear hst hcj c0 hu
            go_wp2
            go_quiet (fail)
            go_wp2
            go_roundw
            case rel => exact ⟨j + 1, m + 1, by omega, by omega, HM1, by go_num, by go_num, ⟨_, H1.out, ownB_set (w := World.drewN _ _) hown _⟩, (below_drewN hB _).setCell (Nat.le_refl _) _⟩
            case measure => simp [intOf]; omega
          have e2 : (u != 0) = true := by rw [bne_iff_ne]; exact u0
          by_cases uc : u = ((s[j]'hjs).toNat : Int)
          · have e3 : (u != ((s[j]'hjs).toNat : Int)) = false := by simp [uc]
            have H1 := Box0.mk (stK_put hst hu (by omega) (.inr (by omega)))
            rw [hcj] at H1
            clear hst hcj c0 hu uc
            go_wp2
            go_quiet (fail)
            go_wp2
            go_roundw
            case rel => exact ⟨j + 1, m + 1, by omega, by omega, HM1, by go_num, by go_num, ⟨_, H1.out, ownB_set (w := World.drewN _ _) hown _⟩, (below_drewN hB _).setCell (Nat.le_refl _) _⟩
            case measure => simp [intOf]; omega
          · have e3 : (u != ((s[j]'hjs).toNat : Int)) = true := by rw [bne_iff_ne]; exact uc
            have H1 := Box0.mk (forV_none (stK_clash hst hu (by omega) u0 (by omega)) (by rw [HL.out, HZ.out]; have h1 := HM.out; have h2 := HT.out; have h3 : (k + 1) * sz ≤ n * sz := Nat.mul_le_mul_right _ (by omega); rw [Nat.add_mul] at h3; omega))
            clear hst hcj c0 hu uc
            go_wp2
            go_quiet (fail)
            go_wp2
            go_ret2
            exact ⟨by rw [H1.out]; rfl, below_drewN hB _⟩
        · obtain rfl : j = sz := by omega
          have HT1 : Box0 (m = (k + 1) * j) := ⟨by have h1 := HM.out; have h2 := HT.out; rw [Nat.add_mul]; omega⟩
          go_wp2
          go_roundw
          case rel => exact ⟨k + 1, m, by omega, by go_num, rfl, HT1, by omega, ⟨_, hst, hown⟩, hB⟩
          case measure => simp [intOf]; omega
    · obtain rfl : k = n := by omega
      have HF := Box0.mk (forV_some (by rw [HL.out, HZ.out, ← HT.out]; exact hst))
      have hwl := stK_len hst
      have HW := Lib.hid hwl
      clear hst
      replace hown : OwnB wr w.heap.size (.slice (some ⟨w.heap.size, 0, none⟩) l l) l ((fin wd).take 0 ++ wd.drop 0) := hown
      go_wp2_with fail
      go_loopw [66] (fun i wi => ∃ x : Nat, x ≤ l ∧ i = .int .i64 x ∧ OwnB wi w.heap.size (.slice (some ⟨w.heap.size, 0, none⟩) l l) l ((fin wd).take x ++ wd.drop x) ∧ Below w.heap.size w wi) (fun i _ => l - (intOf i).toNat)
      case atStart => exact ⟨0, Nat.zero_le _, rfl, hown, hB⟩
      case round =>
      clear hown hB
      obtain ⟨x, hx, rfl, hown, hB⟩ := hrel
      by_cases hlx : x < l
      · obtain ⟨u, hu, hcu⟩ := ownB_at hown hlx
        have hfr := World.ownsRow.frozenAt hown x
        have hu2 : wd[x]? = some u := by
          rw [List.getElem?_append_right (by simp; omega), List.getElem?_drop] at hu
          have : x + (x - ((fin wd).take x).length) = x := by simp [fin]; omega
          rw [this] at hu
          exact hu
        have hst := fin_take_succ hu2
        have x0 : (0 : Int) ≤ (x : Int) := by omega
        have x1 : (x : Int) < (l : Int) := by omega
        by_cases u0 : u = 0
        · subst u0
          rw [if_pos rfl] at hst
          have HST := Box0.mk hst
          clear hst hu hu2
          go_wp2
          go_roundw
          case rel => exact ⟨x + 1, by omega, by go_num, by rw [HST.out]; exact ownB_set hown _, hB.setCell (Nat.le_refl _) _⟩
          case measure => simp [intOf]; omega
        · rw [if_neg u0] at hst
          have e1 : (u == 0) = false := by rw [beq_eq_false_iff_ne]; exact u0
          have hsm : ((fin wd).take x ++ wd.drop x).set x u = (fin wd).take x ++ wd.drop x := by
            obtain ⟨hh, he⟩ := List.getElem?_eq_some_iff.1 hu
            rw [← he, List.set_getElem_self]
          rw [hsm] at hst
          have HST := Box0.mk hst
          clear hst hu hu2 hsm
          go_wp2
          go_roundw
          case rel => exact ⟨x + 1, by omega, by go_num, by rw [HST.out]; exact hown, hB⟩
          case measure => simp [intOf]; omega
      · obtain rfl : x = l := by omega
        have he : (fin wd).take x ++ wd.drop x = fin wd := by
          rw [List.take_of_length_le (by simp [fin]; omega), List.drop_of_length_le (by omega), List.append_nil]
        rw [he] at hown
        have kc := ownB_conv hown
        clear he
        go_wp2
        go_ret2
        exact ⟨by rw [HF.out]; rfl, hB⟩
end Go.Proofs.Ytipelbhikomkiaa
