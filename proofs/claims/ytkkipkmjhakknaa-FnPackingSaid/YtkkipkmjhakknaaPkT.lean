/- Contracts of a packing's law: a2Has, a2Turn, a2About. -/
import Derived.Test.YtkkipkmjhakknaaPackV
import Derived.Test.YtkkipkmjhakknaaGoodF
namespace Go.Proofs.Ytkkipkmjhakknaa
open Go.RowKit
set_option linter.unusedVariables false
set_option linter.unusedSimpArgs false

theorem a2HasG_eq (A : Option Addr) (n c : Nat) (gs : List Int) (z : Int) (v : Bool) (w : World) (h : Ints w A n gs) (hn : n ≤ 1048576) (hv : hasI gs z = v) : Calls Try.prog 57 #[.slice A n c, .int .i64 z] w fun e w' =>
    e = .returned (.bool v) ∧ w = w' := by
  subst hv
  have HL := Lib.hid h.1
  go_enter Try.func57, Try.ntmps57
  go_wp2
  go_loop [5] (fun i => ∃ k : Nat, k ≤ n ∧ i = .int .i64 k ∧ NoTill gs z k) (fun i => n - (intOf i).toNat)
  case atStart => exact ⟨0, Nat.zero_le _, rfl, fun _ h => absurd h (by omega)⟩
  case round =>
    obtain ⟨k, hk, rfl, he⟩ := hrel
    by_cases hlt : k < n
    · obtain ⟨b, off, y, rfl, hblt, hy, hcy⟩ := h.at_ hlt
      have Hy := Lib.hid hy
      clear hy
      by_cases e : y = z
      · have ht : (y == z) = true := by simpa using e
        have E := Lib.hid e
        clear e
        go_wp2
        go_ret
        exact ⟨ret_bool (hasI_yes Hy.out E.out).symm, rfl⟩
      · have ht : (y == z) = false := by simpa using e
        go_wp2
        go_round
        case rel => exact ⟨k + 1, by omega, by go_num, noTill_succ he Hy.out e⟩
        case measure => simp [intOf]; omega
    · obtain rfl : k = n := by omega
      go_wp2
      go_ret
      exact ⟨ret_bool (hasI_no HL.out he).symm, rfl⟩
theorem Ints.take {w : World} {A : Option Addr} {n k : Nat} {zs : List Int} (h : Ints w A n zs) (hk : k ≤ n) : Ints w A k (zs.take k) :=
  ⟨by rw [List.length_take, h.1]; omega, fun hp => by
    obtain ⟨b, off, e, hlt, hc⟩ := h.2 (by omega)
    refine ⟨b, off, e, hlt, fun j z hz => hc j z ?_⟩
    rw [List.getElem?_take] at hz
    split at hz
    · exact hz
    · cases hz⟩
/-- The moment of the first k weights. -/
def momK (ws ps : List Int) (h : Int) (us : List Int) (k : Nat) : Int := ((List.range k).map fun j : Nat => ws.getD j 0 * (ps.getD (us.getD j 0).toNat 0 - h)).sum
theorem momK_succ (ws ps : List Int) (h : Int) (us : List Int) (k : Nat) : momK ws ps h us (k + 1) = momK ws ps h us k + ws.getD k 0 * (ps.getD (us.getD k 0).toNat 0 - h) := by
  unfold momK
  rw [List.range_succ, List.map_append, List.sum_append]; simp
theorem momK_bd (ws ps : List Int) (h : Int) (us : List Int) (hw : ∀ x ∈ ws, 0 ≤ x ∧ x ≤ 10000) (hp : ∀ x ∈ ps, 0 ≤ x ∧ x ≤ 1000) (h0 : 0 ≤ h) (h1 : h ≤ 1000) : ∀ k : Nat, -(10000000 * (k : Int)) ≤ momK ws ps h us k ∧ momK ws ps h us k ≤ 10000000 * k
  | 0 => by simp [momK]
  | k + 1 => by
    have ih := momK_bd ws ps h us hw hp h0 h1 k
    have gd : ∀ (l : List Int) (j : Nat) (M : Int), 0 ≤ M → (∀ x ∈ l, 0 ≤ x ∧ x ≤ M) → 0 ≤ l.getD j 0 ∧ l.getD j 0 ≤ M := by
      intro l j M hM hl
      rw [List.getD_eq_getElem?_getD]
      cases hg : l[j]? with
      | none => simp; exact hM
      | some y => simpa using hl y (List.mem_of_getElem? hg)
    have a := gd ws k 10000 (by omega) hw
    have b := gd ps (us.getD k 0).toNat 1000 (by omega) hp
    rw [momK_succ]
    generalize ws.getD k 0 = x at *
    generalize ps.getD (us.getD k 0).toNat 0 = y at *
    have := mulb (x := x) (y := y) (A := 10000) (B := 1000) (by omega) (by omega) (by omega) (by omega)
    have := mulb (x := x) (y := h) (A := 10000) (B := 1000) (by omega) (by omega) (by omega) (by omega)
    rw [Int.mul_sub]; omega
theorem plc_fresh {n k : Nat} {us : List Int} {u : Int} (h : Plc n us) (hu : us[k]? = some u) : hasI (us.take k) u = false := by
  unfold hasI
  rw [decide_eq_false_iff_not]
  intro hm
  obtain ⟨j, hj, e⟩ := List.mem_iff_getElem.1 hm
  simp at hj
  obtain ⟨hk, e2⟩ := List.getElem?_eq_some_iff.1 hu
  rw [List.getElem_take] at e
  have := List.pairwise_iff_getElem.1 h.1 j k (by omega) hk (by omega)
  exact this (by rw [e, e2])
set_option maxHeartbeats 4000000 in
theorem a2Turn_any (A B U : Option Addr) (n c m d q uc : Nat) (ws ps us : List Int) (z : Int) (v : Int) (w : World) (h : Ints w A n ws) (g : Ints w B m ps) (hu : Ints w U q us) (hn : n ≤ 1048576) (hm : m ≤ 1048576) (hqn : q ≤ n) (hq6 : q ≤ 6) (huc : q ≤ uc) (hum : uc ≤ 9223372036854775807) (hP : Plc ps.length us) (hws : ∀ x ∈ ws, 0 ≤ x ∧ x ≤ 10000) (hps : ∀ x ∈ ps, 0 ≤ x ∧ x ≤ 1000) (z0 : 0 ≤ z) (z1 : z ≤ 1000) (hv : absI (momP ws ps z us) = v) :
    Calls Try.prog 19 #[.slice A n c, .slice B m d, .slice U q uc, .int .i64 z] w fun e w' => e = .returned (.int .i64 v) ∧ Below w.heap.size w w' := by
  have UL := Lib.hid hu.1
  have PL := Lib.hid g.1
  have HV := Lib.hid hv
  have HP := Lib.hid hP
  clear hv hP
  go_enter Try.func19, Try.ntmps19
  go_wp2
  go_loopw [9, 10] (fun s i wr => ∃ k : Nat, k ≤ q ∧ i = .int .i64 k ∧ s = .int .i64 (momK ws ps z us k) ∧ Below w.heap.size w wr) (fun _ i _ => q - (intOf i).toNat)
  case atStart => exact ⟨0, Nat.zero_le _, rfl, by simp [momK], Below.refl _ _⟩
  case round =>
    obtain ⟨k, hk, rfl, rfl, hB⟩ := hrel
    have hbd := momK_bd ws ps z us hws hps z0 z1 k
    obtain ⟨bd1, bd2⟩ := hbd
    by_cases hlt : k < q
    · obtain ⟨bu, ou, u, rfl, hbu, hug, hcu⟩ := (hu.keep hB).at_ hlt
      obtain ⟨u0, u1⟩ := HP.out.2 u (List.mem_of_getElem? hug)
      rw [PL.out] at u1
      obtain ⟨bw, ow, x, rfl, hbw, hxg, hcx⟩ := (h.keep hB).at_ (show k < n by omega)
      obtain ⟨x0, x1⟩ := hws x (List.mem_of_getElem? hxg)
      obtain ⟨uN, rfl⟩ := Int.eq_ofNat_of_zero_le u0
      obtain ⟨bp, op, y, rfl, hbp, hyg, hcy⟩ := (g.keep hB).at_ (show uN < m by omega)
      obtain ⟨y0, y1⟩ := hps y (List.mem_of_getElem? hyg)
      have hfr := plc_fresh HP.out hug
      have hms := momK_succ ws ps z us k
      rw [show us.getD k 0 = (uN : Int) by rw [List.getD_eq_getElem?_getD, hug]; rfl, Int.toNat_natCast, show ws.getD k 0 = x by rw [List.getD_eq_getElem?_getD, hxg]; rfl, show ps.getD uN 0 = y by rw [List.getD_eq_getElem?_getD, hyg]; rfl] at hms
      have HMS := Lib.hid hms
      have HF := Lib.hid hfr
      clear hms hfr hxg hyg hug
      have htk := (hu.keep hB).take (show k ≤ q by omega)
      have k0 : (0 : Int) ≤ (k : Int) := by omega
      have k1 : (k : Int) < (q : Int) := by omega
      have k2 : (k : Int) < (n : Int) := by omega
      have k3 : k ≤ uc := by omega
      have t1 : decide ((uN : Int) < 0) = false := decide_eq_false (by omega)
      have t2 : decide (m ≤ uN) = false := decide_eq_false (by omega)
      have t3 : (uN : Int) < (m : Int) := by omega
      have t4 : (0 : Int) ≤ (uN : Int) := by omega
      have mb1 := mulb (x := x) (y := y) (A := 10000) (B := 1000) (by omega) (by omega) (by omega) (by omega)
      have mb2 := mulb (x := x) (y := z) (A := 10000) (B := 1000) (by omega) (by omega) (by omega) (by omega)
      have me : x * (y - z) = x * y - x * z := Int.mul_sub _ _ _
      have mb3 : -10000000 ≤ x * (y - z) ∧ x * (y - z) ≤ 10000000 := by omega
      obtain ⟨mb4, mb5⟩ := mb3
      clear mb1 mb2 me
      have htb := Box.mk htk
      clear htk
      go_wp2
      go_region_held3 (fun w' => w'.cell? ⟨bu, ou + k, none⟩ = some (.int .i64 (uN : Int)) ∧ w'.cell? ⟨bw, ow + k, none⟩ = some (.int .i64 x) ∧ w'.cell? ⟨bp, op + uN, none⟩ = some (.int .i64 y) ∧ Box (Ints w' (some ⟨bu, ou, none⟩) k (us.take k)) ∧ Below w.heap.size w w')
        (((try go_split_ands); (try dsimp only); (repeat' apply And.intro)) <;> first | assumption | exact keepd (by assumption) | exact Below.drew (by assumption) | exact Box.mk (Ints.keep (Box.out (by assumption)) (drew_below1 _)))
        ((go_at_call 57; (with_reducible refine (a2HasG_eq _ _ _ _ _ _ _ (Box.out (by go_split_ands; assumption)) (by omega) HF.out).mono ?_); rintro e w' ⟨rfl, rfl⟩))
      go_wp2
      go_quiet (fail)
      go_wp2
      go_roundw
      case rel => exact ⟨k + 1, by omega, by go_num, by rw [HMS.out], by go_split_ands; (repeat' (first | (with_reducible exact Below.refl _ _) | (with_reducible assumption) | (with_reducible refine Below.drew ?_) | (with_reducible refine below_drewN ?_ _) | (with_reducible refine Below.setCell ?_ ?_ _) | (with_reducible refine Below.alloc ?_ ?_ _) | go_size))⟩
      case measure => simp [intOf]; omega
    · obtain rfl : k = q := by omega
      have e9 : momK ws ps z us k = momP ws ps z us := by unfold momK momP; rw [UL.out]
      have e8 := HV.out
      rw [← e9, ← absI_max] at e8
      have E8 := Lib.hid e8
      clear e9 e8
      have sg : momK ws ps z us k < 0 ∨ 0 ≤ momK ws ps z us k := by omega
      generalize momK ws ps z us k = M at *
      rcases sg with sg | sg
      · have hv : v = -M := by have := E8.out; omega
        subst hv
        clear E8
        go_wp2
        go_ret
        exact ⟨rfl, hB⟩
      · have hv : v = M := by have := E8.out; omega
        subst hv
        clear E8
        go_wp2
        go_ret
        exact ⟨by go_num, hB⟩
set_option maxHeartbeats 4000000 in
theorem a2About_any (A : Option Addr) (n c : Nat) (cs : List R2) (a v : Int) (w : World) (h : Recs w A n cs) (hn : n ≤ 1048576) (ho : okGs cs = true) (a0 : 0 ≤ a) (a1 : a ≤ 1000) (hv : absI (momentI a cs) = v) :
    Calls Try.prog 24 #[.slice A n c, .int .i64 a] w fun e w' => e = .returned (.int .i64 v) ∧ Below w.heap.size w w' := by
  have HL := Lib.hid h.1
  have HV := Lib.hid hv
  have HM := Lib.hid (moment_bd ho (a := a) ⟨a0, a1⟩)
  have hnl : n ≤ 10 := by have := (okGs_iff.1 ho).2; have := HL.out; omega
  clear hv
  go_enter Try.func24, Try.ntmps24
  go_wp2
  go_loopw [5, 6] (fun s i wr => ∃ k : Nat, k ≤ n ∧ i = .int .i64 k ∧ s = .int .i64 (momentI a (cs.take k)) ∧ ∃ u, wr = w.drewN u) (fun _ i _ => n - (intOf i).toNat)
  case atStart => exact ⟨0, Nat.zero_le _, rfl, by simp [momentI], 0, rfl⟩
  case round =>
    obtain ⟨k, hk, rfl, rfl, nw, rfl⟩ := hrel
    have hmk := HM.out k (by rw [HL.out]; exact hk)
    by_cases hlt : k < n
    · obtain ⟨b, off, x, rfl, hblt, hx, hc0, hc1⟩ := h.at_ hlt
      obtain ⟨x1', x2'⟩ := okG_bd ho hx
      have hmb := mulabs (x := x.1) (y := x.2 - a) (A := 10000) (B := 1000) (by omega) (by omega) (by omega) (by omega)
      have hs2 : momentI a (cs.take (k + 1)) = momentI a (cs.take k) + x.1 * (x.2 - a) := by rw [take_snoc' hx, momentI_snoc]
      have H2 := Lib.hid hs2
      have k0 : (0 : Int) ≤ (k : Int) := by omega
      have k1 : (k : Int) < (n : Int) := by omega
      clear hs2 hx
      go_wp2
      go_quiet (fail)
      go_wp2
      go_roundw
      case rel => exact ⟨k + 1, by omega, by go_num, by rw [H2.out], (by first | exact ⟨_, rfl⟩ | exact drew2 _ _ _ | exact ⟨0, rfl⟩)⟩
      case measure => simp [intOf]; omega
    · obtain rfl : k = n := by omega
      have et : cs.take k = cs := List.take_of_length_le (by rw [HL.out]; omega)
      rw [et]
      rw [et] at hmk
      have hv := HV.out
      clear et HM HV HL
      have sg : momentI a cs < 0 ∨ 0 ≤ momentI a cs := by omega
      have hB : Below w.heap.size w (w.drewN nw) := drew_below _ _
      unfold absI at hv
      generalize momentI a cs = M at *
      rcases sg with sg | sg
      · have hv : v = -M := by rw [if_pos sg] at hv; omega
        subst hv
        go_wp2
        go_ret
        exact ⟨by go_num, hB⟩
      · have hv : v = M := by rw [if_neg (by omega)] at hv; omega
        subst hv
        go_wp2
        go_ret
        exact ⟨by go_num, hB⟩
end Go.Proofs.Ytkkipkmjhakknaa
