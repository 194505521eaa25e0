/- PackLevel of the program. -/
import Derived.Test.YtkkipkmjhakknaaPackH
import Derived.Deep.Cut
import Derived.Deep.CutRange
import Derived.Laws.EntriesVeiled
namespace Go.Proofs.Ytkkipkmjhakknaa
open Go.RowKit
set_option linter.unusedVariables false
set_option linter.unusedSimpArgs false

theorem packOk_m {ws ps : List Int} {h : Int} (e : 6 < ps.length) : packOk ws ps h = false := by
  have : ¬ ps.length ≤ 6 := by omega
  simp [packOk, this]
theorem packOk_q {ws ps : List Int} {h : Int} (e : allIn ps 0 1000 = false) : packOk ws ps h = false := by simp [packOk, e]
theorem isPlaceG_eq (z : Int) (v : Bool) (w : World) (h : inB z 0 1000 = v) : Calls Try.prog 53 #[.int .i64 z] w fun e w' => e = .returned (.bool v) ∧ w = w' := by
  subst h; exact isPlaceG_any z w
/-- The world behind region 6: four new blocks in whatever order. -/
structure PreC (w wx : World) (A B : Option Addr) (n c m d : Nat) (z : Int) (sv uv L ar : Nat) : Prop where
  cw : wx.cell? ⟨w.heap.size, 0, none⟩ = some (.slice A n c)
  cp : wx.cell? ⟨w.heap.size + 1, 0, none⟩ = some (.slice B m d)
  ch : wx.cell? ⟨w.heap.size + 1 + 1, 0, none⟩ = some (.int .i64 z)
  cb : wx.cell? ⟨w.heap.size + 1 + 1 + 1 + 1, 0, none⟩ = some (.slice (some ⟨w.heap.size + 1 + 1 + 1, 0, none⟩) 0 0)
  cl : wx.cell? ⟨w.heap.size + 1 + 1 + 1 + 1 + 1, 0, none⟩ = some (.int .i64 (-1))
  cs : wx.cell? ⟨sv, 0, none⟩ = some (.slice (some ⟨L, 0, none⟩) 0 0)
  cu : wx.cell? ⟨uv, 0, none⟩ = some (.slice (some ⟨ar, 0, none⟩) m m)
  hL : wx.heap[L]? = some (.cells #[] 2 (0, 0))
  hE : wx.heap[w.heap.size + 1 + 1 + 1]? = some (.cells #[] 2 (0, 0))
  hA : wx.heap[ar]? = some (.cells (madeCells #[.bool false] m) 4 (0, 0))
  z1 : wx.frozen? ⟨sv, 0, none⟩ = false
  z2 : wx.frozen? ⟨w.heap.size + 1 + 1 + 1 + 1, 0, none⟩ = false
  z3 : wx.frozen? ⟨w.heap.size + 1 + 1 + 1 + 1 + 1, 0, none⟩ = false
  lo : w.heap.size + 6 ≤ sv ∧ w.heap.size + 6 ≤ uv ∧ w.heap.size + 6 ≤ L ∧ w.heap.size + 6 ≤ ar
  hi : sv < w.heap.size + 10 ∧ uv < w.heap.size + 10 ∧ L < w.heap.size + 10 ∧ ar < w.heap.size + 10
  ne : sv ≠ uv ∧ sv ≠ L ∧ sv ≠ ar ∧ uv ≠ L ∧ uv ≠ ar ∧ L ≠ ar
  sz : wx.heap.size = w.heap.size + 10
  below : Below w.heap.size w wx
theorem own_lit {w : World} {base g : Nat} (hb : base ≤ g) (h : w.heap[g]? = some (.cells #[] 2 (0, 0))) : OwnI w base (.slice (some ⟨g, 0, none⟩) 0 0) 0 [] := ⟨by simp, .inr ⟨g, 0, #[], rfl, hb, h, Nat.le_refl _, Nat.zero_le _, rfl, by simp⟩⟩
theorem made_at {w : World} {g m : Nat} {t : TypeId} (h : w.heap[g]? = some (.cells (madeCells #[.bool false] m) t (0, 0))) : (∀ j : Nat, j < m → w.cell? ⟨g, j, none⟩ = some (.bool false)) ∧ ∀ j : Nat, w.frozen? ⟨g, j, none⟩ = false :=
  ⟨fun j hj => by rw [cell_of_row _ _ _ _ _ _ h]; simp [madeCells, hj, Nat.mod_one], fun j => frozen_of_row _ _ _ _ _ h⟩
theorem pre_dif {w wc : World} {A B : Option Addr} {n c m d : Nat} {z : Int} {sv uv L ar : Nat} (P : PreC w wc A B n c m d z sv uv L ar) : Dif9 sv w.heap.size (w.heap.size + 1 + 1 + 1 + 1 + 1) (w.heap.size + 1 + 1 + 1 + 1) (w.heap.size + 1) uv wc.heap.size (w.heap.size + 1 + 1) ar := by
  have hs0 := P.sz
  obtain ⟨o1, o2, o3, o4⟩ := P.lo
  obtain ⟨i1, i2, i3, i4⟩ := P.hi
  obtain ⟨n1, n2, n3, n4, n5, n6⟩ := P.ne
  constructor <;> omega
theorem pre_clo {w wc w2 : World} {A B : Option Addr} {n c m d : Nat} {z : Int} {sv uv L ar : Nat} {F : Value} (P : PreC w wc A B n c m d z sv uv L ar) (hb : Below wc.heap.size wc w2) (hf : w2.cell? ⟨wc.heap.size, 0, none⟩ = some F) :
    CloC w2 sv w.heap.size (w.heap.size + 1 + 1 + 1 + 1 + 1) (w.heap.size + 1 + 1 + 1 + 1) (w.heap.size + 1) uv wc.heap.size (w.heap.size + 1 + 1) ar (.slice A n c) (.slice B m d) F z m (.slice (some ⟨L, 0, none⟩) 0 0) (.slice (some ⟨w.heap.size + 1 + 1 + 1, 0, none⟩) 0 0) (-1) (fun j => hasI [] j) := by
  have hs0 := P.sz
  obtain ⟨o1, o2, o3, o4⟩ := P.lo
  obtain ⟨i1, i2, i3, i4⟩ := P.hi
  have hz := hb.size
  obtain ⟨m1, m2⟩ := made_at P.hA
  refine ⟨keepc hb P.cs, keepc hb P.cw, keepc hb P.cl, keepc hb P.cb, keepc hb P.cp, keepc hb P.cu, hf, keepc hb P.ch, ?_, ?_, ?_, fun j hj => ?_, fun j hj => ?_, by omega⟩
  · exact (hb.frozen (p := ⟨sv, 0, none⟩) (by simp only; omega)).trans P.z1
  · exact (hb.frozen (p := ⟨w.heap.size + 1 + 1 + 1 + 1 + 1, 0, none⟩) (by simp only; omega)).trans P.z3
  · exact (hb.frozen (p := ⟨w.heap.size + 1 + 1 + 1 + 1, 0, none⟩) (by simp only; omega)).trans P.z2
  · exact (hb.frozen (p := ⟨ar, j, none⟩) (by simp only; omega)).trans (m2 j)
  · have := keepc hb (m1 j hj)
    simpa [hasI] using this
theorem pre_own {w wc w2 : World} {A B : Option Addr} {n c m d : Nat} {z : Int} {sv uv L ar : Nat} (P : PreC w wc A B n c m d z sv uv L ar) (hb : Below wc.heap.size wc w2) :
    CloO w2 w.heap.size (Far9 sv w.heap.size (w.heap.size + 1 + 1 + 1 + 1 + 1) (w.heap.size + 1 + 1 + 1 + 1) (w.heap.size + 1) uv wc.heap.size (w.heap.size + 1 + 1) ar) (some ⟨L, 0, none⟩) (some ⟨w.heap.size + 1 + 1 + 1, 0, none⟩) 0 0 0 0 [] [] := by
  have hs0 := P.sz
  obtain ⟨o1, o2, o3, o4⟩ := P.lo
  obtain ⟨i1, i2, i3, i4⟩ := P.hi
  obtain ⟨n1, n2, n3, n4, n5, n6⟩ := P.ne
  have e1 := own_lit (base := w.heap.size) (by omega) P.hL
  have e2 := own_lit (base := w.heap.size) (by omega) P.hE
  refine ⟨e1.keep hb, e2.keep hb, fun g e => ?_, fun g e => ?_, fun g e e2 => ?_⟩
  · have : L = g := by simpa [blk] using e
    unfold Far9; omega
  · have : w.heap.size + 1 + 1 + 1 = g := by simpa [blk] using e
    unfold Far9; omega
  · have h1 : L = g := by simpa [blk] using e
    have h2 : w.heap.size + 1 + 1 + 1 = g := by simpa [blk] using e2
    omega
theorem info_bool : (Try.prog.info? 4).map (fun i => (i.zero, i.size, i.bytes)) = some (some (.bool false), 1, 1) := by kernel_rfl
theorem box3_below (w : World) (a b c : Obj) : Below w.heap.size w (((w.alloc a).alloc b).alloc c) := (((Below.refl _ _).alloc (Nat.le_refl _) _).alloc (by simp) _).alloc (by simp; omega) _
set_option maxRecDepth 100000 in
set_option maxHeartbeats 4000000 in
theorem implPack_any (A B : Option Addr) (n c m d : Nat) (ws ps : List Int) (z : Int) (w : World) (h : Ints w A n ws) (g : Ints w B m ps) (hn : n ≤ 1048576) (hm : m ≤ 1048576) : Calls Try.prog 18 #[.slice A n c, .slice B m d, .int .i64 z] w (PackPost ws ps z w) := by
  have HL := Lib.hid h.1
  have GL := Lib.hid g.1
  have hbx := box3_below w (.cells #[.slice A n c] 24) (.cells #[.slice B m d] 24) (.cells #[.int .i64 z] 2)
  unfold PackPost
  by_cases h6 : 6 < n
  · have h6' : (6 : Int) < (n : Int) := by omega
    have := packOk_n (ps := ps) (h := z) (show 6 < ws.length by rw [HL.out]; exact h6)
    go_enter Try.func18, Try.ntmps18
    go_wp2_with fail
    go_ret3
    (rw [packV_range (by assumption)]; exact ⟨none, 0, 0, rfl, World.ownsRow_nil _ _ _ _, by (repeat' (first | (with_reducible exact Below.refl _ _) | (with_reducible assumption) | (with_reducible refine Below.drew ?_) | (with_reducible refine below_drewN ?_ _) | (with_reducible refine Below.setCell ?_ ?_ _) | (with_reducible refine Below.alloc ?_ ?_ _) | go_size))⟩)
  have h6' : ¬ (6 : Int) < (n : Int) := by omega
  by_cases m6 : 6 < m
  · have m6' : (6 : Int) < (m : Int) := by omega
    have := packOk_m (ws := ws) (h := z) (show 6 < ps.length by rw [GL.out]; exact m6)
    go_enter Try.func18, Try.ntmps18
    go_wp2_with fail
    go_ret3
    (rw [packV_range (by assumption)]; exact ⟨none, 0, 0, rfl, World.ownsRow_nil _ _ _ _, by (repeat' (first | (with_reducible exact Below.refl _ _) | (with_reducible assumption) | (with_reducible refine Below.drew ?_) | (with_reducible refine below_drewN ?_ _) | (with_reducible refine Below.setCell ?_ ?_ _) | (with_reducible refine Below.alloc ?_ ?_ _) | go_size))⟩)
  have m6' : ¬ (6 : Int) < (m : Int) := by omega
  cases hv1 : allIn ws 1 10000
  · have := packOk_w (ps := ps) (h := z) hv1
    go_enter Try.func18, Try.ntmps18
    go_wp2_with (go_at_call 52; first | ((with_reducible refine (eachWithin_eq _ _ _ _ _ _ _ _ (h.keep hbx) hn hv1).mono ?_); rintro e w' ⟨rfl, rfl⟩) | ((with_reducible refine (eachWithin_eq _ _ _ _ _ _ _ _ (g.keep hbx) hm hv2).mono ?_); rintro e w' ⟨rfl, rfl⟩))
    go_ret3
    (rw [packV_range (by assumption)]; exact ⟨none, 0, 0, rfl, World.ownsRow_nil _ _ _ _, by (repeat' (first | (with_reducible exact Below.refl _ _) | (with_reducible assumption) | (with_reducible refine Below.drew ?_) | (with_reducible refine below_drewN ?_ _) | (with_reducible refine Below.setCell ?_ ?_ _) | (with_reducible refine Below.alloc ?_ ?_ _) | go_size))⟩)
  cases hv2 : allIn ps 0 1000
  · have := packOk_q (ws := ws) (h := z) hv2
    go_enter Try.func18, Try.ntmps18
    go_wp2_with (go_at_call 52; first | ((with_reducible refine (eachWithin_eq _ _ _ _ _ _ _ _ (h.keep hbx) hn hv1).mono ?_); rintro e w' ⟨rfl, rfl⟩) | ((with_reducible refine (eachWithin_eq _ _ _ _ _ _ _ _ (g.keep hbx) hm hv2).mono ?_); rintro e w' ⟨rfl, rfl⟩))
    go_ret3
    (rw [packV_range (by assumption)]; exact ⟨none, 0, 0, rfl, World.ownsRow_nil _ _ _ _, by (repeat' (first | (with_reducible exact Below.refl _ _) | (with_reducible assumption) | (with_reducible refine Below.drew ?_) | (with_reducible refine below_drewN ?_ _) | (with_reducible refine Below.setCell ?_ ?_ _) | (with_reducible refine Below.alloc ?_ ?_ _) | go_size))⟩)
  cases hv3 : inB z 0 1000
  · have := packOk_h (ws := ws) (ps := ps) hv3
    go_enter Try.func18, Try.ntmps18
    go_wp2_with (first | (go_at_call 52; first | ((with_reducible refine (eachWithin_eq _ _ _ _ _ _ _ _ (h.keep hbx) hn hv1).mono ?_); rintro e w' ⟨rfl, rfl⟩) | ((with_reducible refine (eachWithin_eq _ _ _ _ _ _ _ _ (g.keep hbx) hm hv2).mono ?_); rintro e w' ⟨rfl, rfl⟩)) | (go_at_call 53; refine (isPlaceG_eq _ _ _ hv3).mono ?_; rintro e w' ⟨rfl, rfl⟩))
    go_ret3
    (rw [packV_range (by assumption)]; exact ⟨none, 0, 0, rfl, World.ownsRow_nil _ _ _ _, by (repeat' (first | (with_reducible exact Below.refl _ _) | (with_reducible assumption) | (with_reducible refine Below.drew ?_) | (with_reducible refine below_drewN ?_ _) | (with_reducible refine Below.setCell ?_ ?_ _) | (with_reducible refine Below.alloc ?_ ?_ _) | go_size))⟩)
  obtain ⟨z0, z1⟩ := (inB_iff _ _ _).1 hv3
  have hok := packOk_parts (by rw [HL.out]; omega) (by rw [GL.out]; omega) hv1 hv2 hv3
  by_cases hf : m < n
  · have hf' : (m : Int) < (n : Int) := by omega
    have HV := Lib.hid (packV_full hok (by rw [HL.out, GL.out]; exact hf))
    clear hok
    go_enter Try.func18, Try.ntmps18
    go_wp2_with (first | (go_at_call 52; first | ((with_reducible refine (eachWithin_eq _ _ _ _ _ _ _ _ (h.keep hbx) hn hv1).mono ?_); rintro e w' ⟨rfl, rfl⟩) | ((with_reducible refine (eachWithin_eq _ _ _ _ _ _ _ _ (g.keep hbx) hm hv2).mono ?_); rintro e w' ⟨rfl, rfl⟩)) | (go_at_call 53; refine (isPlaceG_eq _ _ _ hv3).mono ?_; rintro e w' ⟨rfl, rfl⟩))
    go_ret3
    rw [HV.out]
    exact ⟨none, 0, 0, rfl, World.ownsRow_nil _ _ _ _, by (repeat' (first | (with_reducible exact Below.refl _ _) | (with_reducible assumption) | (with_reducible refine Below.drew ?_) | (with_reducible refine below_drewN ?_ _) | (with_reducible refine Below.setCell ?_ ?_ _) | (with_reducible refine Below.alloc ?_ ?_ _) | go_size))⟩
  have hf' : ¬ (m : Int) < (n : Int) := by omega
  have HV := Lib.hid (packV_all hok (by rw [HL.out, GL.out]; exact hf))
  clear hok
  have hmk : ∀ w : World, (Instr.makeSlice 68 (.int .i64 (m : Int)) (.int .i64 (m : Int))).run Try.prog w = .ok (.slice (some ⟨w.heap.size, 0, none⟩) m m) (w.alloc (.cells (madeCells #[.bool false] m) 4)) := fun w => by
    obtain ⟨ib, hib, hbz, hbs, hby⟩ := info_parts info_bool
    have := run_make (P := Try.prog) w 68 4 ib (.bool false) Try.underlying68 hib hbz .i64 .i64 (m : Int) (m : Int) (by omega) (Int.le_refl _) (by rw [hby]; omega) (by omega)
    simpa [hbs, Value.cells] using this
  go_enter Try.func18, Try.ntmps18
  go_upto_region 6 with (first | (go_at_call 52; first | ((with_reducible refine (eachWithin_eq _ _ _ _ _ _ _ _ (h.keep hbx) hn hv1).mono ?_); rintro e w' ⟨rfl, rfl⟩) | ((with_reducible refine (eachWithin_eq _ _ _ _ _ _ _ _ (g.keep hbx) hm hv2).mono ?_); rintro e w' ⟨rfl, rfl⟩)) | (go_at_call 53; refine (isPlaceG_eq _ _ _ hv3).mono ?_; rintro e w' ⟨rfl, rfl⟩))
  go_cut [11, 12, 47, 50] from 48 to 49 (fun s t v x wx => ∃ sv uv L ar, s = .pointer (some ⟨sv, 0, none⟩) ∧ t = .pointer (some ⟨uv, 0, none⟩) ∧ v = .slice (some ⟨L, 0, none⟩) 0 0 ∧ x = .slice (some ⟨ar, 0, none⟩) m m ∧ PreC w wx A B n c m d z sv uv L ar)
  case first =>
    go_region
    all_goals (go_wp2_with fail; go_meet; refine ⟨_, _, _, _, rfl, rfl, rfl, rfl, ?_⟩)
    all_goals (refine ⟨?_, ?_, ?_, ?_, ?_, ?_, ?_, ?_, ?_, ?_, ?_, ?_, ?_, by omega, by omega, by omega, by simp, by (repeat' (first | (with_reducible exact Below.refl _ _) | (with_reducible assumption) | (with_reducible refine Below.drew ?_) | (with_reducible refine below_drewN ?_ _) | (with_reducible refine Below.setCell ?_ ?_ _) | (with_reducible refine Below.alloc ?_ ?_ _) | go_size))⟩)
    all_goals (try (simp only [World.cell?, World.frozen?, World.alloc, World.drew, Array.getElem?_push, Array.size_push]; simp; done))
    all_goals (try (go_simp; done))
  case rest =>
    obtain ⟨sv, uv, L, ar, rfl, rfl, rfl, rfl, hpre⟩ := hcut
    have hmf : ∀ (fn : Fn) (first cap : Array Value) (w : World), (Instr.makeFunc fn first cap).run Try.prog w = .ok (.func fn first cap) w := fun _ _ _ _ => rfl
    go_wp2_with fail
    have hs0 := hpre.sz
    obtain ⟨o1, o2, o3, o4⟩ := hpre.lo
    obtain ⟨i1, i2, i3, i4⟩ := hpre.hi
    have hws : ∀ x ∈ ws, 0 ≤ x ∧ x ≤ 10000 := fun x hx => by
      obtain ⟨j, hj, e⟩ := List.mem_iff_getElem.1 hx
      have := allIn_at hv1 (show ws[j]? = some x by rw [List.getElem?_eq_getElem hj, e])
      omega
    have hps : ∀ x ∈ ps, 0 ≤ x ∧ x ≤ 1000 := fun x hx => by
      obtain ⟨j, hj, e⟩ := List.mem_iff_getElem.1 hx
      exact allIn_at hv2 (show ps[j]? = some x by rw [List.getElem?_eq_getElem hj, e])
    refine (clo_any w ws ps z sv w.heap.size (w.heap.size + 1 + 1 + 1 + 1 + 1) (w.heap.size + 1 + 1 + 1 + 1) (w.heap.size + 1) uv wc.heap.size (w.heap.size + 1 + 1) ar w.heap.size A B n c m d hws hps z0 z1 (by rw [HL.out]; omega) (by rw [GL.out]; omega) rfl h g (pre_dif hpre) (by omega) (by omega) (by omega) (by omega) ws.length [] 0 _ ([], -1) (some ⟨L, 0, none⟩) (some ⟨w.heap.size + 1 + 1 + 1, 0, none⟩) 0 0 0 0 (by simp) (pre_clo hpre ?hb1 ?hf1) (pre_own hpre ?hb1) ?hb2 (by simp) (by simp)).mono ?_
    case hb1 => (repeat' (first | (with_reducible exact Below.refl _ _) | (with_reducible assumption) | (with_reducible refine Below.drew ?_) | (with_reducible refine below_drewN ?_ _) | (with_reducible refine Below.setCell ?_ ?_ _) | (with_reducible refine Below.alloc ?_ ?_ _) | go_size))
    case hf1 => rw [World.cell?_alloc_new]; rfl
    case hb2 => exact hpre.below.trans (by (repeat' (first | (with_reducible exact Below.refl _ _) | (with_reducible assumption) | (with_reducible refine Below.drew ?_) | (with_reducible refine below_drewN ?_ _) | (with_reducible refine Below.setCell ?_ ?_ _) | (with_reducible refine Below.alloc ?_ ?_ _) | go_size)))
    rintro e w6 ⟨rfl, hB6, U6, BA6, uc6, bn6, bc6, hC6, hO6⟩
    have e3 := hC6.cb
    have e4 := hC6.cl
    have ho6 := hO6.best
    clear hC6 hO6
    go_wp2_with fail
    go_region
    all_goals
      go_wp2_with fail
      go_ret3
      rw [HV.out]
      exact ⟨_, _, _, rfl, ho6, by (repeat' (first | (with_reducible exact Below.refl _ _) | (with_reducible assumption) | (with_reducible refine Below.drew ?_) | (with_reducible refine below_drewN ?_ _) | (with_reducible refine Below.setCell ?_ ?_ _) | (with_reducible refine Below.alloc ?_ ?_ _) | go_size))⟩
end Go.Proofs.Ytkkipkmjhakknaa
