/- l16Most: the table. -/
import Derived.Test.YtniifpfhfpcmcaaMostT
import Derived.Test.YtniifpfhfpcmcaaHas
import Derived.Test.YtniifpfhfpcmcaaNewX
import Derived.StillTailTactics
namespace Go.Proofs.Ytniifpfhfpcmcaa
open Go.RowKit
set_option linter.unusedVariables false
set_option linter.unusedSimpArgs false

theorem below_at {W0 w : World} {B : Nat} (h : Below B W0 w) {r o : Nat} (hr : B ≤ r) (v : Value) : Below B W0 (w.setCell ⟨r, o, none⟩ v) := h.setCell hr v
theorem tabP_next {w : World} {base B j n : Nat} {rs : Nat → Nat} (h : TabP w base B j n rs) (hj : j < n) (hb : base ≤ w.heap.size) : TabP ((w.setCell ⟨B, j, none⟩ (.slice (some ⟨w.heap.size, 0, none⟩) 2 2)).alloc (.cells #[.int .i64 (-1), .int .i64 (-1)] 2)) base B (j + 1) n (fun g => if g = j then w.heap.size else rs g) := by
  have h1 := tabP_step h hj hb
  rw [World.setCell_alloc_past (hn := h.1.2.1)] at h1
  exact h1
theorem Tab.drew {w : World} {base B n : Nat} {rs : Nat → Nat} {T : Nat → Bool → Int} (h : Tab w base B n rs T) : Tab w.drew base B n rs T := h.keep ⟨rfl, rfl, rfl, Nat.le_refl _, fun _ _ => rfl⟩
theorem l00MaxR (a b v : Int) (w : World) (h : max a b = v) : Calls Try.prog 60 #[.int .i64 a, .int .i64 b] w fun e w' => e = .returned (.int .i64 v) ∧ w' = w := (l00MaxQ a b v w h).mono fun _ _ ⟨a, b⟩ => ⟨a, b.symm⟩
set_option maxRecDepth 100000 in
set_option maxHeartbeats 8000000 in
theorem l16Most_any (s g0 n c : Nat) (A : Option Addr) (zs : List Int) (last : Bool) (w : World) (h : Ints w A n zs) (hn : n ≤ 1048576) (s0 : 3 ≤ s) (s1 : s ≤ 60) (hg0 : g0 ≤ 60) : Calls Try.prog 61 #[.int .i64 s, .slice A n c, .int .i64 g0, .bool last] w fun e w' => e = .returned (.int .i64 (mostK s zs g0 last)) ∧ Below w.heap.size w w' := by
  obtain ⟨i0, hi0, hz0, hz1, hz2⟩ := info_parts info_ss
  obtain ⟨m, hm⟩ : ∃ m : Nat, min g0 s = m := ⟨_, rfl⟩
  have hm' : min (g0 : Int) (s : Int) = (m : Int) := by omega
  obtain ⟨z, hz⟩ : ∃ z : Nat, m + 1 = z := ⟨_, rfl⟩
  have hz' : (m : Int) + 1 = (z : Int) := by omega
  have z1 : z ≤ 61 := by omega
  have z0 : 1 ≤ z := by omega
  have HZ := Lib.hid (show min g0 s + 1 = z by omega)
  clear hm hz
  have hbytes : i0.bytes * z ≤ 281474976710656 := by rw [hz2]; omega
  have hmx : z ≤ maxLen := by unfold maxLen; omega
  have HH := Lib.hid h
  obtain ⟨brk, hbrk⟩ : ∃ brk : Nat → Bool, (fun j : Nat => hasI zs (j : Int)) = brk := ⟨_, rfl⟩
  have HB := Lib.hid hbrk
  have HK := Lib.hid (fun j : Nat => show hasI zs (j : Int) = brk j by rw [← hbrk])
  clear h hbrk
  cases last
  · skip
    go_enter Try.func61, Try.ntmps61
    go_wp2_with (first | (go_at_call 70; refine (l00MinQ _ _ _ _ hm').mono ?_; rintro e w' ⟨rfl, rfl⟩) | (at_make; refine wpList_make_full _ rfl _ _ _ rfl w.heap.size 22 i0 (.slice none 0 0) 1 Try.underlying36 hi0 hz0 hz1 .i64 .i64 z z z rfl rfl rfl rfl hbytes hmx (Nat.le_refl _) ?_; intro w2 hown hg))
    have hB := (Below.refl w.heap.size w).grown hg (Nat.le_refl _) (by simp)
    have hT0 := tabP_start hown
    clear hown hg
    have hBB : w.heap.size ≤ w.heap.size := Nat.le_refl _
    go_loopw [11] (fun i wx => ∃ j : Nat, j ≤ z ∧ i = .int .i64 j ∧ (∃ rs, TabP wx w.heap.size w.heap.size j z rs) ∧ Below w.heap.size w wx) (fun i _ => z - (intOf i).toNat)
    case atStart => exact ⟨0, Nat.zero_le _, rfl, ⟨_, hT0⟩, hB⟩
    case round =>
      obtain ⟨j, hj, rfl, ⟨rs, hT⟩, hB⟩ := hrel
      by_cases hlt : j < z
      · obtain ⟨⟨u, hu⟩, hf⟩ := hT.2 j hlt
        have hBl := hT.1.2.1
        have j0 : (0 : Int) ≤ (j : Int) := by omega
        have j1 : (j : Int) < (z : Int) := by omega
        have hk := (Below.refl wr.heap.size wr).alloc (Nat.le_refl _) (.cells #[.int .i64 (-1), .int .i64 (-1)] 2)
        have hu' := keepc hk hu
        have hf' := (hk.frozen (p := ⟨w.heap.size, j, none⟩) hBl).trans hf
        have HT := Lib.hid hT
        clear hT hk hu hf
        go_wp2
        go_roundw
        case rel => exact ⟨j + 1, by omega, by go_num, ⟨_, tabP_next HT.out hlt (by have := hB.size; omega)⟩, (hB.setCell (by omega) _).alloc (by have := hB.size; simp; omega) _⟩
        case measure => simp [intOf]; omega
      · obtain rfl : z = j := by omega
        have r0 := hT.1.2.2.1 0 (by omega)
        have b1 := r0.cB
        have b2 := r0.c0
        have b3 := r0.c1
        have b4 := r0.z0
        have b5 := r0.z1
        have hrl := r0.lo
        have hT1 := (Tab.set0 hT.1 (g := 0) (by omega) 0).congr (T' := tabK brk false 0) (fun g a _ => by rw [tab0_upd]; rfl)
        have hB1 := below_at (o := 0) hB hrl (.int .i64 0)
        clear hT hB hT0 r0
        have j0 : (0 : Int) < (z : Int) := by omega
        go_wp2
        clear b1 b2 b3 b4 b5
        generalize wr.setCell ⟨rs 0, 0, none⟩ (.int .i64 0) = wz at *
        clear j0 hlt
        go_loopw [10, 12] (fun bv i wx => ∃ k : Nat, k ≤ s ∧ i = .int .i64 k ∧ (∃ (BB : Nat) (ro : Nat → Nat), bv = .slice (some ⟨BB, 0, none⟩) z z ∧ Tab wx w.heap.size BB z ro (tabK brk false k)) ∧ Below w.heap.size w wx) (fun _ i _ => s - (intOf i).toNat)
        case atStart => exact ⟨0, Nat.zero_le _, rfl, ⟨_, _, rfl, hT1⟩, hB1⟩
        case round =>
          clear hT1 hB1 hj hrl
          obtain ⟨k, hk, rfl, ⟨BB, ro, rfl, hO⟩, hB⟩ := hrel
          have hTb := fun g a => tabK_bd brk false k g a
          have HO := Lib.hid hO
          obtain ⟨T, hT⟩ : ∃ T, tabK brk false k = T := ⟨_, rfl⟩
          rw [hT] at hTb hO
          have HT := Lib.hid hT
          clear hT HO
          by_cases hks : k < s
          · have hws := hB.size
            have hz0' : (0 : Int) ≤ (z : Int) := by omega
            generalize wr = W0 at *
            go_wp2_with (at_make; refine wpList_make_full _ rfl _ _ _ rfl W0.heap.size 22 i0 (.slice none 0 0) 1 Try.underlying36 hi0 hz0 hz1 .i64 .i64 z z z rfl rfl rfl rfl hbytes hmx (Nat.le_refl _) ?_; intro w2 hown hg)
            have hb := (Below.refl W0.heap.size W0).grown hg (Nat.le_refl _) (by simp)
            have hT0 := tabP_start hown
            clear hown hg
            go_loopw [14] (fun i wx => ∃ j : Nat, j ≤ z ∧ i = .int .i64 j ∧ (∃ rs, TabP wx W0.heap.size W0.heap.size j z rs) ∧ Below W0.heap.size W0 wx) (fun i _ => z - (intOf i).toNat)
            case atStart => exact ⟨0, Nat.zero_le _, rfl, ⟨_, hT0⟩, hb⟩
            case round =>
              clear hT0 hb
              obtain ⟨j, hj, rfl, ⟨rn, hT⟩, hb⟩ := hrel
              by_cases hlt : j < z
              · obtain ⟨⟨u, hu⟩, hf⟩ := hT.2 j hlt
                have hBl := hT.1.2.1
                have j0 : (0 : Int) ≤ (j : Int) := by omega
                have j1 : (j : Int) < (z : Int) := by omega
                have hk2 := (Below.refl wr.heap.size wr).alloc (Nat.le_refl _) (.cells #[.int .i64 (-1), .int .i64 (-1)] 2)
                have hu' := keepc hk2 hu
                have hf' := (hk2.frozen (p := ⟨W0.heap.size, j, none⟩) hBl).trans hf
                have HT2 := Lib.hid hT
                have hsz := hb.size
                clear hT hk2 hu hf hO hTb
                go_wp2
                go_roundw
                case rel => exact ⟨j + 1, by omega, by go_num, ⟨_, tabP_next HT2.out hlt hsz⟩, (hb.setCell (Nat.le_refl _) _).alloc (by simpa using hsz) _⟩
                case measure => simp [intOf]; omega
              · obtain rfl : z = j := by omega
                have hN := hT.1.congr (T' := nxT brk k T 0 0) (fun g a _ => nxT_start g a)
                clear hT hlt hj
                go_wp2
                go_loopw [15] (fun i wx => ∃ g : Nat, g ≤ z ∧ i = .int .i64 g ∧ Tab wx W0.heap.size W0.heap.size z rn (nxT brk k T g 0) ∧ Below W0.heap.size W0 wx) (fun i _ => z - (intOf i).toNat)
                case atStart => exact ⟨0, Nat.zero_le _, rfl, hN, hb⟩
                case round =>
                  clear hN hb
                  obtain ⟨g, hg, rfl, hN, hb⟩ := hrel
                  by_cases hgz : g < z
                  · have g1 : (g : Int) < (z : Int) := by omega
                    have g0' : (0 : Int) ≤ (g : Int) := by omega
                    go_wp2
                    go_loopw [16] (fun i wx => ∃ j : Nat, j ≤ 2 ∧ i = .int .i64 j ∧ Tab wx W0.heap.size W0.heap.size z rn (nxT brk k T g j) ∧ Below W0.heap.size W0 wx) (fun i _ => 2 - (intOf i).toNat)
                    case atStart => exact ⟨0, Nat.zero_le _, rfl, hN, hb⟩
                    case round =>
                      clear hN hb
                      obtain ⟨j, hj, rfl, hN, hb⟩ := hrel
                      by_cases hj2 : j < 2
                      · have hoR := (hO.keep hb).2.2.1 g hgz
                        have o1 := hoR.cB
                        have o2 := hoR.c0
                        have o3 := hoR.c1
                        have hnR := hN.2.2.1 g hgz
                        have n1 := hnR.cB
                        have n2 := hnR.c0
                        have n3 := hnR.z0
                        have hnl := hnR.lo
                        have hTf := hTb g false
                        have hTt := hTb g true
                        have hvb := nxT_bd (brk := brk) hTb g j g false
                        have hub := nxT_bd (brk := brk) hTb g j (g + 1) true
                        have HTB := Lib.hid hTb
                        have HNN := Lib.hid hN
                        have HOO := Lib.hid hO
                        have hzk := HH.out.keep (hB.trans (hb.mono hws))
                        clear hoR hnR hTb hN hO
                        have hj01 : j = 0 ∨ j = 1 := by omega
                        rcases hj01 with rfl | rfl
                        · skip
                          obtain ⟨y, hy⟩ : ∃ y, T g false = y := ⟨_, rfl⟩
                          have Hy := Lib.hid hy
                          rw [nxT_f 0] at n2
                          rw [hy] at o2 hTf
                          clear hy hvb hub
                          have n2' : wr.cell? ⟨rn g, 0, none⟩ = some (.int .i64 (-1)) := n2
                          clear n2
                          by_cases hneg : y < 0
                          · go_wp2
                            go_roundw
                            case rel => exact ⟨1, by omega, by go_num, HNN.out.congr (fun g' a _ => nxT_skip0 (by have := Hy.out; omega) g' a), hb⟩
                            case measure => simp [intOf]
                          obtain ⟨mx, hmx⟩ : ∃ mx, max (-1) y = mx := ⟨_, rfl⟩
                          obtain ⟨my, hmy⟩ : ∃ my, max (-1) (y + 1) = my := ⟨_, rfl⟩
                          have wy0 : IntKind.i64.wrap y = y := IntWalk.i64_in _ (by omega)
                          have wy1 : IntKind.i64.wrap (y + 1) = y + 1 := IntWalk.i64_in _ (by omega)
                          have hhk := HK.out k
                          by_cases hgl : g + 1 < z
                          · have hgl' : (g : Int) + 1 < (z : Int) := by omega
                            have wg : IntKind.i64.wrap ((g : Int) + 1) = (g : Int) + 1 := IntWalk.i64_in _ (by omega)
                            have wg2 : (0 : Int) ≤ (g : Int) + 1 := by omega
                            have wg3 : ((g : Int) + 1).toNat = g + 1 := by omega
                            cases hbk : brk k
                            · rw [hbk] at hhk
                              go_wp2_with (go_at_call 55; refine (l00Has_eq _ _ _ _ _ _ _ hzk hn hhk).mono ?_; rintro e w' ⟨rfl, rfl⟩)
                              (refine wp_region_still_tail 15 (by kernel_rfl) (by kernel_rfl) ?_; simp only [List.take_succ_cons, List.take_zero, List.drop_succ_cons, List.drop_zero]; (repeat still_step); still_call (l00MaxR _ _ _ _ hmx); (repeat still_step); refine wpStill_nil ?_; (change wpList _ _ _ _ _ (World.drew _)))
                              have hT2 := (Tab.set0 HNN.out hgz mx).drew
                              have hb2 := (below_at (o := 0) hb hnl (.int .i64 mx)).drew
                              have r2 := hT2.2.2.1 (g + 1) hgl
                              have u1 := r2.cB
                              have u2 := r2.c1
                              have u3 := r2.z1
                              have hr2 := r2.lo
                              rw [show updT (nxT brk k T g 0) g false mx (g + 1) true = -1 by unfold updT; rw [if_neg (by simp), nxT_t 0]; rfl] at u2
                              have HT2 := Lib.hid hT2
                              clear hT2 r2
                              go_wp2
                              generalize (wr.setCell ⟨rn g, 0, none⟩ (.int .i64 mx)).drew = w27 at *
                              (refine wp_region_still_tail 16 (by kernel_rfl) (by kernel_rfl) ?_; simp only [List.take_succ_cons, List.take_zero, List.drop_succ_cons, List.drop_zero]; (repeat still_step); still_call (l00MaxR _ _ _ _ hmy); (repeat still_step); refine wpStill_nil ?_; (change wpList _ _ _ _ _ (World.drew _)))
                              have hT3 := (Tab.set1 HT2.out hgl my).drew
                              have hb3 := (below_at (o := 1) hb2 hr2 (.int .i64 my)).drew
                              have hT4 := Lib.hid (hT3.congr (T' := nxT brk k T g 1) (fun g' a _ => by have e1 := Hy.out; rw [← hmx, ← hmy, ← e1]; exact nxT_both0 (by omega) hbk g' a))
                              clear hT3
                              go_wp2
                              go_roundw
                              case rel => exact ⟨1, by omega, by go_num, hT4.out, hb3⟩
                              case measure => simp [intOf]
                            · rw [hbk] at hhk
                              have r2 := HNN.out.2.2.1 (g + 1) hgl
                              have u1 := r2.cB
                              have u2 := r2.c1
                              have u3 := r2.z1
                              have hr2 := r2.lo
                              rw [nxT_t 0] at u2
                              have u2' : wr.cell? ⟨rn (g + 1), 1, none⟩ = some (.int .i64 (-1)) := u2
                              clear u2 r2
                              go_wp2_with (go_at_call 55; refine (l00Has_eq _ _ _ _ _ _ _ hzk hn hhk).mono ?_; rintro e w' ⟨rfl, rfl⟩)
                              (refine wp_region_still_tail 16 (by kernel_rfl) (by kernel_rfl) ?_; simp only [List.take_succ_cons, List.take_zero, List.drop_succ_cons, List.drop_zero]; (repeat still_step); still_call (l00MaxR _ _ _ _ hmy); (repeat still_step); refine wpStill_nil ?_; (change wpList _ _ _ _ _ (World.drew _)))
                              have hT3 := (Tab.set1 HNN.out hgl my).drew
                              have hb3 := (below_at (o := 1) hb hr2 (.int .i64 my)).drew
                              have hT4 := Lib.hid (hT3.congr (T' := nxT brk k T g 1) (fun g' a _ => by have e1 := Hy.out; rw [← hmy, ← e1]; exact nxT_one (by omega) hbk g' a))
                              clear hT3
                              go_wp2
                              go_roundw
                              case rel => exact ⟨1, by omega, by go_num, hT4.out, hb3⟩
                              case measure => simp [intOf]
                          · have hgl' : ¬ (g : Int) + 1 < (z : Int) := by omega
                            cases hbk : brk k
                            · rw [hbk] at hhk
                              go_wp2_with (go_at_call 55; refine (l00Has_eq _ _ _ _ _ _ _ hzk hn hhk).mono ?_; rintro e w' ⟨rfl, rfl⟩)
                              (refine wp_region_still_tail 15 (by kernel_rfl) (by kernel_rfl) ?_; simp only [List.take_succ_cons, List.take_zero, List.drop_succ_cons, List.drop_zero]; (repeat still_step); still_call (l00MaxR _ _ _ _ hmx); (repeat still_step); refine wpStill_nil ?_; (change wpList _ _ _ _ _ (World.drew _)))
                              clear o1 o2 o3
                              have hT2 := (Tab.set0 HNN.out hgz mx).drew
                              have hb2 := (below_at (o := 0) hb hnl (.int .i64 mx)).drew
                              have hT4 := Lib.hid (hT2.congr (T' := nxT brk k T g 1) (fun g' a hg' => by have e1 := Hy.out; rw [← hmx, ← e1]; exact nxT_last0 (by omega) hbk hgl g' a hg'))
                              clear hT2
                              go_wp2
                              go_roundw
                              case rel => exact ⟨1, by omega, by go_num, hT4.out, hb2⟩
                              case measure => simp [intOf]
                            · rw [hbk] at hhk
                              have hT4 := Lib.hid (HNN.out.congr (T' := nxT brk k T g 1) (fun g' a hg' => nxT_last00 (by have e1 := Hy.out; omega) hbk hgl g' a hg'))
                              go_wp2_with (go_at_call 55; refine (l00Has_eq _ _ _ _ _ _ _ hzk hn hhk).mono ?_; rintro e w' ⟨rfl, rfl⟩)
                              go_roundw
                              case rel => exact ⟨1, by omega, by go_num, hT4.out, hb⟩
                              case measure => simp [intOf]
                        · skip
                          obtain ⟨y, hy⟩ : ∃ y, T g true = y := ⟨_, rfl⟩
                          have Hy := Lib.hid hy
                          rw [hy] at o3 hTt
                          clear hy
                          by_cases hneg : y < 0
                          · clear hvb hub
                            go_wp2
                            go_roundw
                            case rel => exact ⟨2, by omega, by go_num, HNN.out.congr (fun g' a _ => nxT_skip1 (by have := Hy.out; omega) hTf.1 g' a), hb⟩
                            case measure => simp [intOf]
                          obtain ⟨v, hv⟩ : ∃ v, nxT brk k T g 1 g false = v := ⟨_, rfl⟩
                          obtain ⟨v2, hv2⟩ : ∃ v, nxT brk k T g 1 (g + 1) true = v := ⟨_, rfl⟩
                          rw [hv] at n2 hvb
                          rw [hv2] at hub
                          have HV := Lib.hid hv
                          have HV2 := Lib.hid hv2
                          clear hv hv2
                          have T0 := hTf.1
                          obtain ⟨mx, hmx⟩ : ∃ mx, max v (y + 1) = mx := ⟨_, rfl⟩
                          obtain ⟨my, hmy⟩ : ∃ my, max v2 (y + 1) = my := ⟨_, rfl⟩
                          have wy1 : IntKind.i64.wrap (y + 1) = y + 1 := IntWalk.i64_in _ (by omega)
                          by_cases hgl : g + 1 < z
                          · have hgl' : (g : Int) + 1 < (z : Int) := by omega
                            have wg : IntKind.i64.wrap ((g : Int) + 1) = (g : Int) + 1 := IntWalk.i64_in _ (by omega)
                            have wg2 : (0 : Int) ≤ (g : Int) + 1 := by omega
                            have wg3 : ((g : Int) + 1).toNat = g + 1 := by omega
                            go_wp2
                            (refine wp_region_still_tail 15 (by kernel_rfl) (by kernel_rfl) ?_; simp only [List.take_succ_cons, List.take_zero, List.drop_succ_cons, List.drop_zero]; (repeat still_step); still_call (l00MaxR _ _ _ _ hmx); (repeat still_step); refine wpStill_nil ?_; (change wpList _ _ _ _ _ (World.drew _)))
                            have hT2 := (Tab.set0 HNN.out hgz mx).drew
                            have hb2 := (below_at (o := 0) hb hnl (.int .i64 mx)).drew
                            have r2 := hT2.2.2.1 (g + 1) hgl
                            have u1 := r2.cB
                            have u2 := r2.c1
                            have u3 := r2.z1
                            have hr2 := r2.lo
                            rw [show updT (nxT brk k T g 1) g false mx (g + 1) true = v2 by unfold updT; rw [if_neg (by simp), HV2.out]] at u2
                            have HT2 := Lib.hid hT2
                            clear hT2 r2
                            go_wp2
                            generalize (wr.setCell ⟨rn g, 0, none⟩ (.int .i64 mx)).drew = w27 at *
                            (refine wp_region_still_tail 16 (by kernel_rfl) (by kernel_rfl) ?_; simp only [List.take_succ_cons, List.take_zero, List.drop_succ_cons, List.drop_zero]; (repeat still_step); still_call (l00MaxR _ _ _ _ hmy); (repeat still_step); refine wpStill_nil ?_; (change wpList _ _ _ _ _ (World.drew _)))
                            have hT3 := (Tab.set1 HT2.out hgl my).drew
                            have hb3 := (below_at (o := 1) hb2 hr2 (.int .i64 my)).drew
                            have hT4 := Lib.hid (hT3.congr (T' := nxT brk k T g 2) (fun g' a _ => by have e1 := Hy.out; rw [← hmx, ← hmy, ← e1, ← HV.out, ← HV2.out]; exact nxT_both1 (by omega) T0 g' a))
                            clear hT3
                            go_wp2
                            go_roundw
                            case rel => exact ⟨2, by omega, by go_num, hT4.out, hb3⟩
                            case measure => simp [intOf]
                          · have hgl' : ¬ (g : Int) + 1 < (z : Int) := by omega
                            go_wp2
                            (refine wp_region_still_tail 15 (by kernel_rfl) (by kernel_rfl) ?_; simp only [List.take_succ_cons, List.take_zero, List.drop_succ_cons, List.drop_zero]; (repeat still_step); still_call (l00MaxR _ _ _ _ hmx); (repeat still_step); refine wpStill_nil ?_; (change wpList _ _ _ _ _ (World.drew _)))
                            clear o1 o2 o3
                            have hT2 := (Tab.set0 HNN.out hgz mx).drew
                            have hb2 := (below_at (o := 0) hb hnl (.int .i64 mx)).drew
                            have hT4 := Lib.hid (hT2.congr (T' := nxT brk k T g 2) (fun g' a hg' => by have e1 := Hy.out; rw [← hmx, ← e1, ← HV.out]; exact nxT_last1 (by omega) T0 hgl g' a hg'))
                            clear hT2
                            go_wp2
                            go_roundw
                            case rel => exact ⟨2, by omega, by go_num, hT4.out, hb2⟩
                            case measure => simp [intOf]
                      · obtain rfl : j = 2 := by omega
                        go_wp2
                        go_roundw
                        case rel => exact ⟨g + 1, by omega, by go_num, hN.congr (fun g' a _ => nxT_next g g' a), hb⟩
                        case measure => simp [intOf]; omega
                  · obtain rfl : z = g := by omega
                    go_wp2
                    go_roundw
                    case rel =>
                      refine ⟨k + 1, by omega, by go_num, ⟨_, _, rfl, (hN.lower hws).congr (fun g' a hg' => ?_)⟩, (hB.trans (hb.mono hws))⟩
                      rw [nxT_end g' a hg', ← HT.out]; rfl
                    case measure => simp [intOf]; omega
          · obtain rfl : k = s := by omega
            go_wp2
            go_loopw [18, 19] (fun mv i wx => ∃ g : Nat, g ≤ z ∧ i = .int .i64 g ∧ mv = .int .i64 (topM (fun j => T j false) g) ∧ wx = wr) (fun _ i _ => z - (intOf i).toNat)
            case atStart => exact ⟨0, Nat.zero_le _, rfl, rfl, rfl⟩
            case round =>
              obtain ⟨g, hg, rfl, rfl, rfl⟩ := hrel
              by_cases hgz : g < z
              · have hoR := hO.2.2.1 g hgz
                have o1 := hoR.cB
                have o2 := hoR.c0
                have o3 := hoR.c1
                have hTg := hTb g false
                have et := Lib.hid (show topM (fun j => T j false) (g + 1) = max (topM (fun j => T j false) g) (T g false) from rfl)
                have g1 : (g : Int) < (z : Int) := by omega
                have g0' : (0 : Int) ≤ (g : Int) := by omega
                obtain ⟨mx, hmx⟩ : ∃ mx, max (topM (fun j => T j false) g) (T g false) = mx := ⟨_, rfl⟩
                have HMX := Lib.hid hmx
                clear hoR hTb hO
                go_wp2_with (go_at_call 60; refine (l00MaxQ _ _ _ _ hmx).mono ?_; rintro e w' ⟨rfl, rfl⟩)
                go_roundw
                case rel => exact ⟨g + 1, by omega, by go_num, by rw [et.out, HMX.out], by first | rfl | trivial⟩
                case measure => simp [intOf]; omega
              · obtain rfl : z = g := by omega
                go_wp2
                go_ret
                refine ⟨ret_int ?_, hB⟩
                unfold mostK
                rw [HZ.out, ← HT.out, ← HB.out]
  · skip
    go_enter Try.func61, Try.ntmps61
    go_wp2_with (first | (go_at_call 70; refine (l00MinQ _ _ _ _ hm').mono ?_; rintro e w' ⟨rfl, rfl⟩) | (at_make; refine wpList_make_full _ rfl _ _ _ rfl w.heap.size 22 i0 (.slice none 0 0) 1 Try.underlying36 hi0 hz0 hz1 .i64 .i64 z z z rfl rfl rfl rfl hbytes hmx (Nat.le_refl _) ?_; intro w2 hown hg))
    have hB := (Below.refl w.heap.size w).grown hg (Nat.le_refl _) (by simp)
    have hT0 := tabP_start hown
    clear hown hg
    have hBB : w.heap.size ≤ w.heap.size := Nat.le_refl _
    go_loopw [11] (fun i wx => ∃ j : Nat, j ≤ z ∧ i = .int .i64 j ∧ (∃ rs, TabP wx w.heap.size w.heap.size j z rs) ∧ Below w.heap.size w wx) (fun i _ => z - (intOf i).toNat)
    case atStart => exact ⟨0, Nat.zero_le _, rfl, ⟨_, hT0⟩, hB⟩
    case round =>
      obtain ⟨j, hj, rfl, ⟨rs, hT⟩, hB⟩ := hrel
      by_cases hlt : j < z
      · obtain ⟨⟨u, hu⟩, hf⟩ := hT.2 j hlt
        have hBl := hT.1.2.1
        have j0 : (0 : Int) ≤ (j : Int) := by omega
        have j1 : (j : Int) < (z : Int) := by omega
        have hk := (Below.refl wr.heap.size wr).alloc (Nat.le_refl _) (.cells #[.int .i64 (-1), .int .i64 (-1)] 2)
        have hu' := keepc hk hu
        have hf' := (hk.frozen (p := ⟨w.heap.size, j, none⟩) hBl).trans hf
        have HT := Lib.hid hT
        clear hT hk hu hf
        go_wp2
        go_roundw
        case rel => exact ⟨j + 1, by omega, by go_num, ⟨_, tabP_next HT.out hlt (by have := hB.size; omega)⟩, (hB.setCell (by omega) _).alloc (by have := hB.size; simp; omega) _⟩
        case measure => simp [intOf]; omega
      · obtain rfl : z = j := by omega
        have r0 := hT.1.2.2.1 0 (by omega)
        have b1 := r0.cB
        have b2 := r0.c0
        have b3 := r0.c1
        have b4 := r0.z0
        have b5 := r0.z1
        have hrl := r0.lo
        have hT1 := (Tab.set1 hT.1 (g := 0) (by omega) 0).congr (T' := tabK brk true 0) (fun g a _ => by rw [tab0_upd]; rfl)
        have hB1 := below_at (o := 1) hB hrl (.int .i64 0)
        clear hT hB hT0 r0
        have j0 : (0 : Int) < (z : Int) := by omega
        go_wp2
        clear b1 b2 b3 b4 b5
        generalize wr.setCell ⟨rs 0, 1, none⟩ (.int .i64 0) = wz at *
        clear j0 hlt
        go_loopw [10, 12] (fun bv i wx => ∃ k : Nat, k ≤ s ∧ i = .int .i64 k ∧ (∃ (BB : Nat) (ro : Nat → Nat), bv = .slice (some ⟨BB, 0, none⟩) z z ∧ Tab wx w.heap.size BB z ro (tabK brk true k)) ∧ Below w.heap.size w wx) (fun _ i _ => s - (intOf i).toNat)
        case atStart => exact ⟨0, Nat.zero_le _, rfl, ⟨_, _, rfl, hT1⟩, hB1⟩
        case round =>
          clear hT1 hB1 hj hrl
          obtain ⟨k, hk, rfl, ⟨BB, ro, rfl, hO⟩, hB⟩ := hrel
          have hTb := fun g a => tabK_bd brk true k g a
          have HO := Lib.hid hO
          obtain ⟨T, hT⟩ : ∃ T, tabK brk true k = T := ⟨_, rfl⟩
          rw [hT] at hTb hO
          have HT := Lib.hid hT
          clear hT HO
          by_cases hks : k < s
          · have hws := hB.size
            have hz0' : (0 : Int) ≤ (z : Int) := by omega
            generalize wr = W0 at *
            go_wp2_with (at_make; refine wpList_make_full _ rfl _ _ _ rfl W0.heap.size 22 i0 (.slice none 0 0) 1 Try.underlying36 hi0 hz0 hz1 .i64 .i64 z z z rfl rfl rfl rfl hbytes hmx (Nat.le_refl _) ?_; intro w2 hown hg)
            have hb := (Below.refl W0.heap.size W0).grown hg (Nat.le_refl _) (by simp)
            have hT0 := tabP_start hown
            clear hown hg
            go_loopw [14] (fun i wx => ∃ j : Nat, j ≤ z ∧ i = .int .i64 j ∧ (∃ rs, TabP wx W0.heap.size W0.heap.size j z rs) ∧ Below W0.heap.size W0 wx) (fun i _ => z - (intOf i).toNat)
            case atStart => exact ⟨0, Nat.zero_le _, rfl, ⟨_, hT0⟩, hb⟩
            case round =>
              clear hT0 hb
              obtain ⟨j, hj, rfl, ⟨rn, hT⟩, hb⟩ := hrel
              by_cases hlt : j < z
              · obtain ⟨⟨u, hu⟩, hf⟩ := hT.2 j hlt
                have hBl := hT.1.2.1
                have j0 : (0 : Int) ≤ (j : Int) := by omega
                have j1 : (j : Int) < (z : Int) := by omega
                have hk2 := (Below.refl wr.heap.size wr).alloc (Nat.le_refl _) (.cells #[.int .i64 (-1), .int .i64 (-1)] 2)
                have hu' := keepc hk2 hu
                have hf' := (hk2.frozen (p := ⟨W0.heap.size, j, none⟩) hBl).trans hf
                have HT2 := Lib.hid hT
                have hsz := hb.size
                clear hT hk2 hu hf hO hTb
                go_wp2
                go_roundw
                case rel => exact ⟨j + 1, by omega, by go_num, ⟨_, tabP_next HT2.out hlt hsz⟩, (hb.setCell (Nat.le_refl _) _).alloc (by simpa using hsz) _⟩
                case measure => simp [intOf]; omega
              · obtain rfl : z = j := by omega
                have hN := hT.1.congr (T' := nxT brk k T 0 0) (fun g a _ => nxT_start g a)
                clear hT hlt hj
                go_wp2
                go_loopw [15] (fun i wx => ∃ g : Nat, g ≤ z ∧ i = .int .i64 g ∧ Tab wx W0.heap.size W0.heap.size z rn (nxT brk k T g 0) ∧ Below W0.heap.size W0 wx) (fun i _ => z - (intOf i).toNat)
                case atStart => exact ⟨0, Nat.zero_le _, rfl, hN, hb⟩
                case round =>
                  clear hN hb
                  obtain ⟨g, hg, rfl, hN, hb⟩ := hrel
                  by_cases hgz : g < z
                  · have g1 : (g : Int) < (z : Int) := by omega
                    have g0' : (0 : Int) ≤ (g : Int) := by omega
                    go_wp2
                    go_loopw [16] (fun i wx => ∃ j : Nat, j ≤ 2 ∧ i = .int .i64 j ∧ Tab wx W0.heap.size W0.heap.size z rn (nxT brk k T g j) ∧ Below W0.heap.size W0 wx) (fun i _ => 2 - (intOf i).toNat)
                    case atStart => exact ⟨0, Nat.zero_le _, rfl, hN, hb⟩
                    case round =>
                      clear hN hb
                      obtain ⟨j, hj, rfl, hN, hb⟩ := hrel
                      by_cases hj2 : j < 2
                      · have hoR := (hO.keep hb).2.2.1 g hgz
                        have o1 := hoR.cB
                        have o2 := hoR.c0
                        have o3 := hoR.c1
                        have hnR := hN.2.2.1 g hgz
                        have n1 := hnR.cB
                        have n2 := hnR.c0
                        have n3 := hnR.z0
                        have hnl := hnR.lo
                        have hTf := hTb g false
                        have hTt := hTb g true
                        have hvb := nxT_bd (brk := brk) hTb g j g false
                        have hub := nxT_bd (brk := brk) hTb g j (g + 1) true
                        have HTB := Lib.hid hTb
                        have HNN := Lib.hid hN
                        have HOO := Lib.hid hO
                        have hzk := HH.out.keep (hB.trans (hb.mono hws))
                        clear hoR hnR hTb hN hO
                        have hj01 : j = 0 ∨ j = 1 := by omega
                        rcases hj01 with rfl | rfl
                        · skip
                          obtain ⟨y, hy⟩ : ∃ y, T g false = y := ⟨_, rfl⟩
                          have Hy := Lib.hid hy
                          rw [nxT_f 0] at n2
                          rw [hy] at o2 hTf
                          clear hy hvb hub
                          have n2' : wr.cell? ⟨rn g, 0, none⟩ = some (.int .i64 (-1)) := n2
                          clear n2
                          by_cases hneg : y < 0
                          · go_wp2
                            go_roundw
                            case rel => exact ⟨1, by omega, by go_num, HNN.out.congr (fun g' a _ => nxT_skip0 (by have := Hy.out; omega) g' a), hb⟩
                            case measure => simp [intOf]
                          obtain ⟨mx, hmx⟩ : ∃ mx, max (-1) y = mx := ⟨_, rfl⟩
                          obtain ⟨my, hmy⟩ : ∃ my, max (-1) (y + 1) = my := ⟨_, rfl⟩
                          have wy0 : IntKind.i64.wrap y = y := IntWalk.i64_in _ (by omega)
                          have wy1 : IntKind.i64.wrap (y + 1) = y + 1 := IntWalk.i64_in _ (by omega)
                          have hhk := HK.out k
                          by_cases hgl : g + 1 < z
                          · have hgl' : (g : Int) + 1 < (z : Int) := by omega
                            have wg : IntKind.i64.wrap ((g : Int) + 1) = (g : Int) + 1 := IntWalk.i64_in _ (by omega)
                            have wg2 : (0 : Int) ≤ (g : Int) + 1 := by omega
                            have wg3 : ((g : Int) + 1).toNat = g + 1 := by omega
                            cases hbk : brk k
                            · rw [hbk] at hhk
                              go_wp2_with (go_at_call 55; refine (l00Has_eq _ _ _ _ _ _ _ hzk hn hhk).mono ?_; rintro e w' ⟨rfl, rfl⟩)
                              (refine wp_region_still_tail 15 (by kernel_rfl) (by kernel_rfl) ?_; simp only [List.take_succ_cons, List.take_zero, List.drop_succ_cons, List.drop_zero]; (repeat still_step); still_call (l00MaxR _ _ _ _ hmx); (repeat still_step); refine wpStill_nil ?_; (change wpList _ _ _ _ _ (World.drew _)))
                              have hT2 := (Tab.set0 HNN.out hgz mx).drew
                              have hb2 := (below_at (o := 0) hb hnl (.int .i64 mx)).drew
                              have r2 := hT2.2.2.1 (g + 1) hgl
                              have u1 := r2.cB
                              have u2 := r2.c1
                              have u3 := r2.z1
                              have hr2 := r2.lo
                              rw [show updT (nxT brk k T g 0) g false mx (g + 1) true = -1 by unfold updT; rw [if_neg (by simp), nxT_t 0]; rfl] at u2
                              have HT2 := Lib.hid hT2
                              clear hT2 r2
                              go_wp2
                              generalize (wr.setCell ⟨rn g, 0, none⟩ (.int .i64 mx)).drew = w27 at *
                              (refine wp_region_still_tail 16 (by kernel_rfl) (by kernel_rfl) ?_; simp only [List.take_succ_cons, List.take_zero, List.drop_succ_cons, List.drop_zero]; (repeat still_step); still_call (l00MaxR _ _ _ _ hmy); (repeat still_step); refine wpStill_nil ?_; (change wpList _ _ _ _ _ (World.drew _)))
                              have hT3 := (Tab.set1 HT2.out hgl my).drew
                              have hb3 := (below_at (o := 1) hb2 hr2 (.int .i64 my)).drew
                              have hT4 := Lib.hid (hT3.congr (T' := nxT brk k T g 1) (fun g' a _ => by have e1 := Hy.out; rw [← hmx, ← hmy, ← e1]; exact nxT_both0 (by omega) hbk g' a))
                              clear hT3
                              go_wp2
                              go_roundw
                              case rel => exact ⟨1, by omega, by go_num, hT4.out, hb3⟩
                              case measure => simp [intOf]
                            · rw [hbk] at hhk
                              have r2 := HNN.out.2.2.1 (g + 1) hgl
                              have u1 := r2.cB
                              have u2 := r2.c1
                              have u3 := r2.z1
                              have hr2 := r2.lo
                              rw [nxT_t 0] at u2
                              have u2' : wr.cell? ⟨rn (g + 1), 1, none⟩ = some (.int .i64 (-1)) := u2
                              clear u2 r2
                              go_wp2_with (go_at_call 55; refine (l00Has_eq _ _ _ _ _ _ _ hzk hn hhk).mono ?_; rintro e w' ⟨rfl, rfl⟩)
                              (refine wp_region_still_tail 16 (by kernel_rfl) (by kernel_rfl) ?_; simp only [List.take_succ_cons, List.take_zero, List.drop_succ_cons, List.drop_zero]; (repeat still_step); still_call (l00MaxR _ _ _ _ hmy); (repeat still_step); refine wpStill_nil ?_; (change wpList _ _ _ _ _ (World.drew _)))
                              have hT3 := (Tab.set1 HNN.out hgl my).drew
                              have hb3 := (below_at (o := 1) hb hr2 (.int .i64 my)).drew
                              have hT4 := Lib.hid (hT3.congr (T' := nxT brk k T g 1) (fun g' a _ => by have e1 := Hy.out; rw [← hmy, ← e1]; exact nxT_one (by omega) hbk g' a))
                              clear hT3
                              go_wp2
                              go_roundw
                              case rel => exact ⟨1, by omega, by go_num, hT4.out, hb3⟩
                              case measure => simp [intOf]
                          · have hgl' : ¬ (g : Int) + 1 < (z : Int) := by omega
                            cases hbk : brk k
                            · rw [hbk] at hhk
                              go_wp2_with (go_at_call 55; refine (l00Has_eq _ _ _ _ _ _ _ hzk hn hhk).mono ?_; rintro e w' ⟨rfl, rfl⟩)
                              (refine wp_region_still_tail 15 (by kernel_rfl) (by kernel_rfl) ?_; simp only [List.take_succ_cons, List.take_zero, List.drop_succ_cons, List.drop_zero]; (repeat still_step); still_call (l00MaxR _ _ _ _ hmx); (repeat still_step); refine wpStill_nil ?_; (change wpList _ _ _ _ _ (World.drew _)))
                              clear o1 o2 o3
                              have hT2 := (Tab.set0 HNN.out hgz mx).drew
                              have hb2 := (below_at (o := 0) hb hnl (.int .i64 mx)).drew
                              have hT4 := Lib.hid (hT2.congr (T' := nxT brk k T g 1) (fun g' a hg' => by have e1 := Hy.out; rw [← hmx, ← e1]; exact nxT_last0 (by omega) hbk hgl g' a hg'))
                              clear hT2
                              go_wp2
                              go_roundw
                              case rel => exact ⟨1, by omega, by go_num, hT4.out, hb2⟩
                              case measure => simp [intOf]
                            · rw [hbk] at hhk
                              have hT4 := Lib.hid (HNN.out.congr (T' := nxT brk k T g 1) (fun g' a hg' => nxT_last00 (by have e1 := Hy.out; omega) hbk hgl g' a hg'))
                              go_wp2_with (go_at_call 55; refine (l00Has_eq _ _ _ _ _ _ _ hzk hn hhk).mono ?_; rintro e w' ⟨rfl, rfl⟩)
                              go_roundw
                              case rel => exact ⟨1, by omega, by go_num, hT4.out, hb⟩
                              case measure => simp [intOf]
                        · skip
                          obtain ⟨y, hy⟩ : ∃ y, T g true = y := ⟨_, rfl⟩
                          have Hy := Lib.hid hy
                          rw [hy] at o3 hTt
                          clear hy
                          by_cases hneg : y < 0
                          · clear hvb hub
                            go_wp2
                            go_roundw
                            case rel => exact ⟨2, by omega, by go_num, HNN.out.congr (fun g' a _ => nxT_skip1 (by have := Hy.out; omega) hTf.1 g' a), hb⟩
                            case measure => simp [intOf]
                          obtain ⟨v, hv⟩ : ∃ v, nxT brk k T g 1 g false = v := ⟨_, rfl⟩
                          obtain ⟨v2, hv2⟩ : ∃ v, nxT brk k T g 1 (g + 1) true = v := ⟨_, rfl⟩
                          rw [hv] at n2 hvb
                          rw [hv2] at hub
                          have HV := Lib.hid hv
                          have HV2 := Lib.hid hv2
                          clear hv hv2
                          have T0 := hTf.1
                          obtain ⟨mx, hmx⟩ : ∃ mx, max v (y + 1) = mx := ⟨_, rfl⟩
                          obtain ⟨my, hmy⟩ : ∃ my, max v2 (y + 1) = my := ⟨_, rfl⟩
                          have wy1 : IntKind.i64.wrap (y + 1) = y + 1 := IntWalk.i64_in _ (by omega)
                          by_cases hgl : g + 1 < z
                          · have hgl' : (g : Int) + 1 < (z : Int) := by omega
                            have wg : IntKind.i64.wrap ((g : Int) + 1) = (g : Int) + 1 := IntWalk.i64_in _ (by omega)
                            have wg2 : (0 : Int) ≤ (g : Int) + 1 := by omega
                            have wg3 : ((g : Int) + 1).toNat = g + 1 := by omega
                            go_wp2
                            (refine wp_region_still_tail 15 (by kernel_rfl) (by kernel_rfl) ?_; simp only [List.take_succ_cons, List.take_zero, List.drop_succ_cons, List.drop_zero]; (repeat still_step); still_call (l00MaxR _ _ _ _ hmx); (repeat still_step); refine wpStill_nil ?_; (change wpList _ _ _ _ _ (World.drew _)))
                            have hT2 := (Tab.set0 HNN.out hgz mx).drew
                            have hb2 := (below_at (o := 0) hb hnl (.int .i64 mx)).drew
                            have r2 := hT2.2.2.1 (g + 1) hgl
                            have u1 := r2.cB
                            have u2 := r2.c1
                            have u3 := r2.z1
                            have hr2 := r2.lo
                            rw [show updT (nxT brk k T g 1) g false mx (g + 1) true = v2 by unfold updT; rw [if_neg (by simp), HV2.out]] at u2
                            have HT2 := Lib.hid hT2
                            clear hT2 r2
                            go_wp2
                            generalize (wr.setCell ⟨rn g, 0, none⟩ (.int .i64 mx)).drew = w27 at *
                            (refine wp_region_still_tail 16 (by kernel_rfl) (by kernel_rfl) ?_; simp only [List.take_succ_cons, List.take_zero, List.drop_succ_cons, List.drop_zero]; (repeat still_step); still_call (l00MaxR _ _ _ _ hmy); (repeat still_step); refine wpStill_nil ?_; (change wpList _ _ _ _ _ (World.drew _)))
                            have hT3 := (Tab.set1 HT2.out hgl my).drew
                            have hb3 := (below_at (o := 1) hb2 hr2 (.int .i64 my)).drew
                            have hT4 := Lib.hid (hT3.congr (T' := nxT brk k T g 2) (fun g' a _ => by have e1 := Hy.out; rw [← hmx, ← hmy, ← e1, ← HV.out, ← HV2.out]; exact nxT_both1 (by omega) T0 g' a))
                            clear hT3
                            go_wp2
                            go_roundw
                            case rel => exact ⟨2, by omega, by go_num, hT4.out, hb3⟩
                            case measure => simp [intOf]
                          · have hgl' : ¬ (g : Int) + 1 < (z : Int) := by omega
                            go_wp2
                            (refine wp_region_still_tail 15 (by kernel_rfl) (by kernel_rfl) ?_; simp only [List.take_succ_cons, List.take_zero, List.drop_succ_cons, List.drop_zero]; (repeat still_step); still_call (l00MaxR _ _ _ _ hmx); (repeat still_step); refine wpStill_nil ?_; (change wpList _ _ _ _ _ (World.drew _)))
                            clear o1 o2 o3
                            have hT2 := (Tab.set0 HNN.out hgz mx).drew
                            have hb2 := (below_at (o := 0) hb hnl (.int .i64 mx)).drew
                            have hT4 := Lib.hid (hT2.congr (T' := nxT brk k T g 2) (fun g' a hg' => by have e1 := Hy.out; rw [← hmx, ← e1, ← HV.out]; exact nxT_last1 (by omega) T0 hgl g' a hg'))
                            clear hT2
                            go_wp2
                            go_roundw
                            case rel => exact ⟨2, by omega, by go_num, hT4.out, hb2⟩
                            case measure => simp [intOf]
                      · obtain rfl : j = 2 := by omega
                        go_wp2
                        go_roundw
                        case rel => exact ⟨g + 1, by omega, by go_num, hN.congr (fun g' a _ => nxT_next g g' a), hb⟩
                        case measure => simp [intOf]; omega
                  · obtain rfl : z = g := by omega
                    go_wp2
                    go_roundw
                    case rel =>
                      refine ⟨k + 1, by omega, by go_num, ⟨_, _, rfl, (hN.lower hws).congr (fun g' a hg' => ?_)⟩, (hB.trans (hb.mono hws))⟩
                      rw [nxT_end g' a hg', ← HT.out]; rfl
                    case measure => simp [intOf]; omega
          · obtain rfl : k = s := by omega
            go_wp2
            go_loopw [18, 19] (fun mv i wx => ∃ g : Nat, g ≤ z ∧ i = .int .i64 g ∧ mv = .int .i64 (topM (fun j => T j true) g) ∧ wx = wr) (fun _ i _ => z - (intOf i).toNat)
            case atStart => exact ⟨0, Nat.zero_le _, rfl, rfl, rfl⟩
            case round =>
              obtain ⟨g, hg, rfl, rfl, rfl⟩ := hrel
              by_cases hgz : g < z
              · have hoR := hO.2.2.1 g hgz
                have o1 := hoR.cB
                have o2 := hoR.c0
                have o3 := hoR.c1
                have hTg := hTb g true
                have et := Lib.hid (show topM (fun j => T j true) (g + 1) = max (topM (fun j => T j true) g) (T g true) from rfl)
                have g1 : (g : Int) < (z : Int) := by omega
                have g0' : (0 : Int) ≤ (g : Int) := by omega
                obtain ⟨mx, hmx⟩ : ∃ mx, max (topM (fun j => T j true) g) (T g true) = mx := ⟨_, rfl⟩
                have HMX := Lib.hid hmx
                clear hoR hTb hO
                go_wp2_with (go_at_call 60; refine (l00MaxQ _ _ _ _ hmx).mono ?_; rintro e w' ⟨rfl, rfl⟩)
                go_roundw
                case rel => exact ⟨g + 1, by omega, by go_num, by rw [et.out, HMX.out], by first | rfl | trivial⟩
                case measure => simp [intOf]; omega
              · obtain rfl : z = g := by omega
                go_wp2
                go_ret
                refine ⟨ret_int ?_, hB⟩
                unfold mostK
                rw [HZ.out, ← HT.out, ← HB.out]
end Go.Proofs.Ytniifpfhfpcmcaa
