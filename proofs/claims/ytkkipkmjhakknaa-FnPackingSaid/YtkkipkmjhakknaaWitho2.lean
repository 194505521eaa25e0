/- The contract of slices.Delete at goods. -/
import Derived.Test.YtkkipkmjhakknaaWitho
namespace Go.Proofs.Ytkkipkmjhakknaa
open Go.RowKit
set_option linter.unusedVariables false
set_option linter.unusedSimpArgs false

theorem setCells_append (g : Nat) : ∀ (vs us : List Value) (o : Nat) (w : World), w.setCells g o (vs ++ us) = (w.setCells g o vs).setCells g (o + vs.length) us
  | [], us, o, w => by simp [World.setCells]
  | v :: vs, us, o, w => by
    rw [List.cons_append, World.setCells, World.setCells, setCells_append g vs us (o + 1), List.length_cons]
    congr 1
    omega
set_option maxHeartbeats 4000000 in
set_option maxRecDepth 100000 in
theorem delGood_any (g n c k base : Nat) (cs : List R2) (w : World) (h : OwnR w base (.slice (some ⟨g, 0, none⟩) n c) n cs) (hk : k < n) (hn : n ≤ 1048576) : Calls Try.prog 64 #[.slice (some ⟨g, 0, none⟩) n c, .int .i64 k, .int .i64 ((k : Int) + 1)] w fun e w' =>
    e = .returned (.slice (some ⟨g, 0, none⟩) (n - 1) c) ∧ OwnR w' base (.slice (some ⟨g, 0, none⟩) (n - 1) c) (n - 1) (cs.take k ++ cs.drop (k + 1)) ∧ w.grownBy w' (some g) := by
  obtain ⟨i0, hi0, hz0, hz1, hz2⟩ := info_parts info_R2
  have ho := h.own
  have hcl : cs.length = n := by have := ho.1; rw [flatR_len] at this; omega
  have hnc : n ≤ c ∧ c ≤ maxLen := by
    rcases ho.2 with ⟨h1, h2⟩ | ⟨g', cap, cur, hv, _, _, h3, h4, _⟩
    · omega
    · have : g = g' ∧ c = cap := by simpa using hv
      omega
  obtain ⟨hnc, hcm⟩ := hnc
  unfold maxLen at hcm
  have hfl := flatR_len cs
  obtain ⟨news, hnews⟩ : ∃ news, news = flatR (cs.drop (k + 1)) := ⟨_, rfl⟩
  have hlen : news.length = (n - (k + 1)) * 2 := by rw [hnews, flatR_len, List.length_drop]; omega
  have hdrop : news = (flatR cs).drop ((k + 1) * 2) := by rw [hnews, flatR_drop]
  obtain ⟨Ad, hA, hsrc⟩ : ∃ A : Addr, (if c = k + 1 then some (⟨g, 0, none⟩ : Addr) else some ⟨g, (k + 1) * 2, none⟩) = some A ∧ Hid (∀ t u, news[t]? = some u → w.drew.cell? (A.add t) = some u) := by
    by_cases e : c = k + 1
    · refine ⟨⟨g, 0, none⟩, by simp [e], fun t u hu => ?_⟩
      have h0 : news.length = 0 := by rw [hlen]; omega
      rw [List.length_eq_zero_iff.1 h0] at hu
      simp at hu
    · refine ⟨⟨g, (k + 1) * 2, none⟩, by simp [e], fun t u hu => ?_⟩
      have ht := (List.getElem?_eq_some_iff.1 hu).1
      rw [hdrop, List.getElem?_drop] at hu
      rw [Addr.add_lit]
      exact (World.ownsRow.cellAt ho _ (by omega)).trans hu
  have s1 : Hid (news.length = (n - (k + 1)) * 2) := hlen
  have s2 : Hid (∀ u ∈ news, u.oneCell' = true) := by
    intro u hu
    rw [hnews] at hu
    obtain ⟨j, hj, e⟩ := List.mem_iff_getElem.1 hu
    obtain ⟨x, _, h2⟩ := flatR_cut (show (flatR (cs.drop (k + 1)))[j]? = some u by rw [List.getElem?_eq_getElem hj, e])
    rcases h2 with ⟨_, rfl⟩ | ⟨_, rfl⟩ <;> rfl
  have s3 : Hid (∀ t, t < news.length → (w.drew.cell? ⟨g, 0 + k * 2 + t, none⟩).isSome = true ∧ w.drew.frozen? ⟨g, 0 + k * 2 + t, none⟩ = false) := by
    intro t ht
    refine ⟨?_, World.ownsRow.frozenAt ho _⟩
    show (w.cell? _).isSome = true
    rw [World.ownsRow.cellAt ho _ (by omega), List.getElem?_eq_getElem (by omega)]; rfl
  obtain ⟨W1, hW1⟩ : ∃ W1, W1 = w.drew.setCells g (0 + k * 2) news := ⟨_, rfl⟩
  have hod : w.drew.ownsRow base 37 2 (.slice (some ⟨g, 0, none⟩) n c) n (flatR cs) := ho
  obtain ⟨ho1, hg1⟩ := own_setCells (w := w) news (0 + k * 2) hod (by omega)
  rw [← hW1] at ho1 hg1
  have ek : k + (n - (k + 1)) = n - 1 := by omega
  have hcl1 : ∀ ty, (Builtin.clear_ #[31] ty #[.slice (some ⟨g, (k + (n - (k + 1))) * 2, none⟩) (n - (k + (n - (k + 1)))) (c - (k + (n - (k + 1))))]).run Try.prog W1 = .ok (.tuple #[]) (W1.setCells g ((n - 1) * 2) [.int .i64 0, .int .i64 0]) := by
    rw [ek, show n - (n - 1) = 1 by omega]
    exact fun ty => run_clear_one W1 g ((n - 1) * 2) _ ty (fun t ht => by rw [World.ownsRow.cellAt ho1 _ (by omega), List.getElem?_eq_getElem (by have := ho1.1; omega)]; rfl) (fun t ht => World.ownsRow.frozenAt ho1 _)
  have EK := Lib.hid ek
  clear ek
  have hW : Hid (W1 = w.drew.setCells g (0 + k * 2) news) := hW1
  have HO1 := Lib.hid ho1
  have HG1 := Lib.hid hg1
  have HD := Lib.hid hdrop
  have HFL := Lib.hid hfl
  have HCL := Lib.hid hcl
  have HLN := Lib.hid hlen
  have HN2 := Lib.hid hnews
  clear hW1 ho1 hg1 hod ho h hdrop hfl hlen hcl hnews
  have t1 : ((k : Int) == (k : Int) + 1) = false := by rw [beq_eq_false_iff_ne]; omega
  have k0 : (k : Int) + 1 ≤ (n : Int) := by omega
  have k5 : ((k : Int) + 1).toNat = k + 1 := by omega
  have k6 : (0 : Int) ≤ (k : Int) + 1 := by omega
  have hic : k ≤ c := by omega
  have hjc : k + 1 ≤ c := by omega
  go_enter Try.func64, Try.ntmps64
  go_wp2_with fail
  go_region_law (refine step_append_room rfl (.tmp 22) (.tmp 25) 31 rfl 37 i0 2 Try.underlying31 hi0 hz1 g 0 k c (by simp [Act.eval, Act.put]) Ad (n - (k + 1)) (c - (k + 1)) news (by simp [Act.eval, Act.put]) s1.out hsrc.out s2.out (by omega) s3.out ?_; rw [← hW.out])
  go_wp2
  go_ret
  have hx := HO1.out
  obtain ⟨X, hX⟩ : ∃ X, X = (flatR cs).take (0 + k * 2) ++ news ++ (flatR cs).drop (0 + k * 2 + news.length) := ⟨_, rfl⟩
  rw [← hX] at hx
  obtain ⟨ho2, hg2⟩ := own_setCells (w := w) [.int .i64 0, .int .i64 0] ((n - 1) * 2) hx (by rw [hx.1]; show (n - 1) * 2 + 2 ≤ n * 2; omega)
  have hl3 : (cs.take k ++ cs.drop (k + 1)).length = n - 1 := by
    have := HCL.out
    rw [List.length_append, List.length_take, List.length_drop]; omega
  have e2 : X.take ((n - 1) * 2) = flatR (cs.take k ++ cs.drop (k + 1)) := by
    rw [hX, flatR_append, flatR_take, ← HN2.out, Nat.zero_add]
    have hl2 : ((flatR cs).take (k * 2) ++ news).length = (n - 1) * 2 := by
      have := HFL.out; have := HCL.out; have := HLN.out
      rw [List.length_append, List.length_take]; omega
    rw [← hl2]
    exact take_len _ _
  have e3 : X.drop ((n - 1) * 2 + [Value.int .i64 0, Value.int .i64 0].length) = [] := List.drop_eq_nil_of_le (by rw [hx.1]; show n * 2 ≤ (n - 1) * 2 + 2; omega)
  rw [e2, e3, List.append_nil] at ho2
  have hnn : n - 1 + 1 = n := by omega
  have ho3 := ownsRow_pop (n := n - 1) (g := g) (cap := c) (xs := flatR (cs.take k ++ cs.drop (k + 1))) (last := [.int .i64 0, .int .i64 0]) (by rw [flatR_len, hl3]) (by rw [hnn]; exact ho2)
  rw [EK.out]
  exact ⟨rfl, ownR_of ho3, World.grownBy.trans' ⟨HG1.out.os, HG1.out.tape, HG1.out.output, HG1.out.size, HG1.out.block⟩ hg2⟩
end Go.Proofs.Ytkkipkmjhakknaa
