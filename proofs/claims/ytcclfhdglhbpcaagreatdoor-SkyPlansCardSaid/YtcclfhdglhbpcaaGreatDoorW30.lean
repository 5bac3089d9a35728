/-
  The walk of the specification's CellOf.
-/
import Derived.Test.YtcclfhdglhbpcaaGreatDoorW29
import Derived.Test.YtcclfhdglhbpcaaGreatDoorW26
import Derived.Laws.StructEq
import Derived.Test.YtcclfhdglhbpcaaGreatDoorW27
namespace Go.Proofs.YtcclfhdglhbpcaaGreatDoor
open Go.RowKit Al Cell9

theorem run_eql_a3 (a b c x y z : Int) (w : World) : (Op.equal 43 (.agg #[.int .i64 a, .int .i64 b, .int .i64 c]) (.agg #[.int .i64 x, .int .i64 y, .int .i64 z])).run Tryz.prog w = .ok (a == x && (b == y && c == z)) w := by
  have hp : ∀ (i : Nat) (v : Value) (cs : Array Value), cs[i]? = some v → (part 3 cs i).run Tryz.prog w = .ok v w := by
    intro i v cs h
    unfold part
    have : (isAgg 3).run Tryz.prog w = .ok false w := by kernel_rfl
    simp only [Sem.run_bind, this, Result.andThen_ok, Bool.false_eq_true, if_false, h, Sem.run_pure]
  have hs : (sizeOf 3).run Tryz.prog w = .ok 1 w := by kernel_rfl
  unfold Op.equal Op.maxDepth
  rw [show 10000 = 9998 + 1 + 1 from rfl]
  unfold Op.equalIn
  simp only [Sem.run_bind, run_underlying Tryz.underlying43, Result.andThen_ok, hs]
  have hq : ∀ (p q : Int), (Op.equalIn 9999 3 (.int .i64 p) (.int .i64 q)).run Tryz.prog w = .ok (p == q) w := fun p q => run_equalIn_int w 9998 3 .i64 .i64 p q Tryz.underlying3
  rw [Std.Legacy.Range.forIn_eq_forIn_range']
  simp only [Std.Legacy.Range.size, Nat.sub_zero, Nat.add_sub_cancel, Nat.div_one, show List.range' 0 3 1 = [0, 1, 2] from rfl, List.forIn_cons, List.forIn_nil, Sem.run_bind, Nat.mul_one]
  have p0 := hp 0 _ #[.int .i64 a, .int .i64 b, .int .i64 c] rfl
  have p1 := hp 1 _ #[.int .i64 a, .int .i64 b, .int .i64 c] rfl
  have p2 := hp 2 _ #[.int .i64 a, .int .i64 b, .int .i64 c] rfl
  have q0 := hp 0 _ #[.int .i64 x, .int .i64 y, .int .i64 z] rfl
  have q1 := hp 1 _ #[.int .i64 x, .int .i64 y, .int .i64 z] rfl
  have q2 := hp 2 _ #[.int .i64 x, .int .i64 y, .int .i64 z] rfl
  have h0 := hq a x
  have h1 := hq b y
  have h2 := hq c z
  clear hp hq hs
  generalize (a == x) = e0 at h0 ⊢
  generalize (b == y) = e1 at h1 ⊢
  generalize (c == z) = e2 at h2 ⊢
  simp only [List.getElem_toArray, List.getElem_cons_zero, List.getElem_cons_succ] at p0 p1 p2 q0 q1 q2
  cases e0 <;> cases e1 <;> cases e2 <;> simp [h0, h1, h2, p0, p1, p2, q0, q1, q2, Result.andThen_ok, Sem.run_pure]
theorem arr_eq (a b c x y z : Int) (w : World) : (Op.equalIn 10000 43 (.agg #[.int .i64 a, .int .i64 b, .int .i64 c]) (.agg #[.int .i64 x, .int .i64 y, .int .i64 z])).run Tryz.prog w = .ok (a == x && (b == y && c == z)) w := run_eql_a3 a b c x y z w
attribute [local go_sem ↓] arr_eq
/-- The coordinates by their places. -/
def vAt (a b c : Int) : Nat → Int
  | 0 => a
  | 1 => b
  | _ => c
/-- Is a vector's coordinate too great (the first that is)? -/
theorem mostB_no {a b c : Int} : mostB (a, b, c) 1000 = false ↔ inB a (-1000) 1000 = false ∨ inB b (-1000) 1000 = false ∨ inB c (-1000) 1000 = false := by
  unfold mostB outB
  simp only [List.any_cons, List.any_nil, Bool.or_false, Bool.not_eq_false', Bool.or_eq_true, Bool.not_eq_true']
/-- The places of the coordinates beside the axis x, the first k of the three. -/
def prefO (R : Nat → Int) (x : Nat) : Nat → List Int
  | 0 => []
  | k + 1 => prefO R x k ++ (if k = x then [] else [R k])
def cntO (x : Nat) (k : Nat) : Nat := if x < k then k - 1 else k
theorem prefO_len (R : Nat → Int) (x k : Nat) : (prefO R x k).length = cntO x k := by
  induction k with
  | zero => simp [prefO, cntO]
  | succ k ih =>
    rw [prefO, List.length_append, ih]
    unfold cntO
    by_cases h : k = x
    · subst h; simp
    · rw [if_neg h]
      simp only [List.length_singleton]
      split <;> split <;> omega
theorem co_all {n a b c m : Int} {x : Nat} {V : Nat → Int} (V0 : V 0 = a) (V1 : V 1 = b) (V2 : V 2 = c) (hx : x < 3) (h : coF a b c 3 = ((x : Int), m)) (hz : (a == 0 && (b == 0 && c == 0)) = false) (hB : ∀ j, j < 3 → -1000 ≤ V j ∧ V j ≤ 1000) :
    ∃ p q, prefO (fun j => pl n m (V j)) x 3 = [p, q] ∧ cellV n a b c = ((2 * (x : Int) + ng (V x)) * n + p) * n + q ∧ m = ab (V x) ∧ (∀ j, j < 3 → -m ≤ V j ∧ V j ≤ m) ∧ 0 < m ∧ m ≤ 1000 := by
  have ha := hB 0 (by decide)
  have hb := hB 1 (by decide)
  have hc := hB 2 (by decide)
  rw [V0] at ha
  rw [V1] at hb
  rw [V2] at hc
  have la := ab_le a
  have lb := ab_le b
  have lc := ab_le c
  have na := ab_nonneg a
  have nb := ab_nonneg b
  have nc := ab_nonneg c
  have ua : ab a ≤ 1000 := by unfold ab; omega
  have ub : ab b ≤ 1000 := by unfold ab; omega
  have uc : ab c ≤ 1000 := by unfold ab; omega
  have hpos : 0 < ab a ∨ 0 < ab b ∨ 0 < ab c := by
    rcases (show (0 < ab a ∨ 0 < ab b ∨ 0 < ab c) ∨ (a = 0 ∧ b = 0 ∧ c = 0) by omega) with h | ⟨rfl, rfl, rfl⟩
    · exact h
    · cases hz
  rcases coF_end n a b c with ⟨e1, e2, e3, e4⟩ | ⟨e1, e2, e3, e4⟩ | ⟨e1, e2, e3, e4⟩
  · rw [e1] at h
    obtain ⟨h1, h2⟩ := Prod.mk.inj h
    obtain rfl : x = 0 := by omega
    subst h2
    refine ⟨pl n (ab a) b, pl n (ab a) c, by simp [prefO, V1, V2], by rw [e2, V0]; rfl, by rw [V0], ?_, by omega, ua⟩
    intro j hj
    obtain rfl | rfl | rfl : j = 0 ∨ j = 1 ∨ j = 2 := by omega
    all_goals first | rw [V0] | rw [V1] | rw [V2]
    all_goals omega
  · rw [e1] at h
    obtain ⟨h1, h2⟩ := Prod.mk.inj h
    obtain rfl : x = 1 := by omega
    subst h2
    refine ⟨pl n (ab b) a, pl n (ab b) c, by simp [prefO, V0, V2], by rw [e2, V1]; rfl, by rw [V1], ?_, by omega, ub⟩
    intro j hj
    obtain rfl | rfl | rfl : j = 0 ∨ j = 1 ∨ j = 2 := by omega
    all_goals first | rw [V0] | rw [V1] | rw [V2]
    all_goals omega
  · rw [e1] at h
    obtain ⟨h1, h2⟩ := Prod.mk.inj h
    obtain rfl : x = 2 := by omega
    subst h2
    refine ⟨pl n (ab c) a, pl n (ab c) b, by simp [prefO, V0, V1], by rw [e2, V2]; rfl, by rw [V2], ?_, by omega, uc⟩
    intro j hj
    obtain rfl | rfl | rfl : j = 0 ∨ j = 1 ∨ j = 2 := by omega
    all_goals first | rw [V0] | rw [V1] | rw [V2]
    all_goals omega
def BxV (W : World) (bb : Nat) (V : Nat → Int) : Prop := W.heap[bb]? = some (.cells #[.int .i64 (V 0), .int .i64 (V 1), .int .i64 (V 2)] 43 (0, 0))
theorem BxV.lt {W : World} {bb : Nat} {V : Nat → Int} (h : BxV W bb V) : bb < W.heap.size := (Array.getElem?_eq_some_iff.1 h).1
theorem BxV.at {W : World} {bb : Nat} {V : Nat → Int} (h : BxV W bb V) {x : Nat} (hx : x < 3) : W.cell? ⟨bb, x, none⟩ = some (.int .i64 (V x)) := by
  unfold BxV at h
  obtain rfl | rfl | rfl : x = 0 ∨ x = 1 ∨ x = 2 := by omega
  all_goals simp [World.cell?, h]
theorem BxV.below {W W' : World} {bb : Nat} {V : Nat → Int} (h : BxV W bb V) (g : Below W.heap.size W W') : BxV W' bb V := (g.block bb h.lt).trans h
def RcRel (V : Nat → Int) (F : Nat → Int × Int) (W : World) (ax i : Value) (wr : World) : Prop := ∃ k x : Nat, 1 ≤ k ∧ k ≤ 3 ∧ x < 3 ∧ i = .int .i64 (k : Int) ∧ ax = .int .i64 (x : Int) ∧ Hid (F k = ((x : Int), ab (V x))) ∧ Hid (Below W.heap.size W wr)
def RlRel (R : Nat → Int) (x : Nat) (W : World) (o i : Value) (wr : World) : Prop := ∃ (k : Nat) (B : Option Addr) (c : Nat), k ≤ 3 ∧ i = .int .i64 (k : Int) ∧ o = .slice B (cntO x k) c ∧ Hid (wr.ownsRow W.heap.size 3 1 (.slice B (cntO x k) c) (cntO x k) (ints (prefO R x k))) ∧ Hid (Below W.heap.size W wr)
set_option maxRecDepth 100000 in
set_option maxHeartbeats 8000000 in
theorem rCellOf_ok (n a b c : Int) (w : World) (h1 : 1 ≤ n) (h8 : n ≤ 8) (ha : -1000 ≤ a ∧ a ≤ 1000) (hb : -1000 ≤ b ∧ b ≤ 1000) (hc : -1000 ≤ c ∧ c ≤ 1000) (hz : (a == 0 && (b == 0 && c == 0)) = false) :
    Calls Tryz.prog 27 #[.int .i64 n, v3 (a, b, c)] w fun e w' => e = .returned (.tuple #[.int .i64 (cellV n a b c), .int .i64 0]) ∧ Below w.heap.size w w' := by
  obtain ⟨i0, hi, hz0, hz1, hz2⟩ := info_parts cInfo
  obtain ⟨a1, a2⟩ := ha
  obtain ⟨b1, b2⟩ := hb
  obtain ⟨c1, c2⟩ := hc
  have bg : inB n 1 8 = true := inB_true.2 ⟨h1, h8⟩
  have ba : inB a (-1000) 1000 = true := inB_true.2 ⟨a1, a2⟩
  have bb : inB b (-1000) 1000 = true := inB_true.2 ⟨b1, b2⟩
  have bc : inB c (-1000) 1000 = true := inB_true.2 ⟨c1, c2⟩
  obtain ⟨V, hV⟩ : ∃ V : Nat → Int, vAt a b c = V := ⟨_, rfl⟩
  have V0 : V 0 = a := by rw [← hV]; rfl
  have V1 : V 1 = b := by rw [← hV]; rfl
  have V2 : V 2 = c := by rw [← hV]; rfl
  have VB : ∀ x, x < 3 → -1000 ≤ V x ∧ V x ≤ 1000 := fun x hx => by
    obtain rfl | rfl | rfl : x = 0 ∨ x = 1 ∨ x = 2 := by omega
    · omega
    · omega
    · omega
  obtain ⟨F, hF⟩ : ∃ F : Nat → Int × Int, coF a b c = F := ⟨_, rfl⟩
  have HF := Lib.hid hF
  have F1 : F 1 = (0, ab (V 0)) := by rw [← hF, V0]; rfl
  have F2 : F 2 = if (F 1).2 < ab (V 1) then (1, ab (V 1)) else F 1 := by rw [← hF, V1]; rfl
  have F3 : F 3 = if (F 2).2 < ab (V 2) then (2, ab (V 2)) else F 2 := by rw [← hF, V2]; rfl
  have HF1 := Lib.hid F1
  have HF2 := Lib.hid F2
  have HF3 := Lib.hid F3
  have HAB := Lib.hid (fun x (hx : x < 3) W => rAbs_ (V x) (by have := VB x hx; omega) (by have := VB x hx; omega) W)
  have HVB := Lib.hid VB
  have HV := Lib.hid hV
  have HV0 := Lib.hid V0
  have HV1 := Lib.hid V1
  have HV2 := Lib.hid V2
  clear hF F1 F2 F3 VB hV
  go_enter Tryz.func27, Tryz.ntmps27
  go_wp2_with (go_at_call 29; refine (rInB_ _ _ _ _).mono ?_; rintro e w' ⟨rfl, rfl⟩; first | rw [bg] | rw [ba] | rw [bb] | rw [bc])
  have HX : Hid (BxV (w.alloc (.cells #[.int .i64 a, .int .i64 b, .int .i64 c] 43)) w.heap.size V) := by
    have h := heap_alloc_new w (.cells #[.int .i64 a, .int .i64 b, .int .i64 c] 43)
    show BxV _ _ _
    unfold BxV
    rw [V0, V1, V2]
    exact h
  have HBW : Hid (Below w.heap.size w (w.alloc (.cells #[.int .i64 a, .int .i64 b, .int .i64 c] 43))) := (Below.refl _ _).alloc (Nat.le_refl _) _
  have hwz : (w.alloc (.cells #[.int .i64 a, .int .i64 b, .int .i64 c] 43)).heap.size = w.heap.size + 1 := by simp
  clear a1 a2 b1 b2 c1 c2 ba bb bc bg V0 V1 V2
  obtain ⟨wa, hwa⟩ : ∃ wa, w.alloc (.cells #[.int .i64 a, .int .i64 b, .int .i64 c] 43) = wa := ⟨_, rfl⟩
  rw [hwa] at HX HBW hwz ⊢
  clear hwa
  obtain ⟨vb, hvb⟩ : ∃ b, w.heap.size = b := ⟨_, rfl⟩
  rw [hvb] at HX ⊢
  have hvl : w.heap.size ≤ wa.heap.size := by omega
  clear hvb hwz
  go_loopw [6, 7] (fun ax i wr => RcRel V F wa ax i wr) (fun _ i _ => 3 - (intOf i).toNat)
  case atStart => exact ⟨1, 0, by decide, by decide, by decide, rfl, rfl, HF1.out, Below.refl _ _⟩
  case round =>
    obtain ⟨k, x, hk1, hk, hx, rfl, rfl, HFK, HB⟩ := hrel
    have hsz := HB.out.size
    have HXR := Lib.hid (HX.out.below HB.out)
    have hvr : vb < wr.heap.size := HXR.out.lt
    have cx := HXR.out.at hx
    have j0 : (0 : Int) ≤ (x : Int) := by omega
    have j1 : (x : Int) < 3 := by omega
    have HQ := Lib.hid (HAB.out x hx)
    by_cases h3 : k < 3
    · have ck := HXR.out.at h3
      have i0 : (0 : Int) ≤ (k : Int) := by omega
      have i1 : (k : Int) < 3 := by omega
      have HP := Lib.hid (HAB.out k h3)
      have HFS : Hid (F (k + 1) = if ab (V x) < ab (V k) then ((k : Int), ab (V k)) else ((x : Int), ab (V x))) := by
        show _ = _
        have hf := HFK.out
        obtain rfl | rfl : k = 1 ∨ k = 2 := by omega
        · rw [HF2.out, hf]; rfl
        · rw [HF3.out, hf]; rfl
      obtain ⟨q, hq⟩ : ∃ q, ab (V x) = q := ⟨_, rfl⟩
      obtain ⟨p, hp⟩ : ∃ p, ab (V k) = p := ⟨_, rfl⟩
      have HPE := Lib.hid hp
      have HQE := Lib.hid hq
      rw [hp, hq] at HFS
      rw [hp] at HP
      rw [hq] at HQ
      clear hp hq
      by_cases hgt : q < p
      · go_wp2_with fail
        refine wp_region_bw2 (by kernel_rfl) (by kernel_rfl) (fun hbwc => ?_)
        repeat (go_big_quiet_step ((first | (with_reducible exact bwSame (HP.out _)) | (with_reducible exact bwSame (HQ.out _)))))
        refine wpQuiet_nil ?_
        clear hbwc
        intro w3 hb
        have HB3 : Hid (Below wa.heap.size wa w3) := HB.out.trans (((show Below wr.heap.size wr _ from (by repeat (first | exact Below.refl _ _ | assumption | refine below_drewN ?_ _ | refine Below.drew ?_ | refine Below.setCell ?_ (by first | omega | (simp; done) | (simp; omega)) _ | refine Below.alloc ?_ (by first | omega | (simp; done) | (simp; omega)) _))).trans (hb.mono (by first | omega | (simp; done) | (simp; omega)))).mono hsz)
        clear hb
        go_wp2_with fail
        go_roundw
        case rel => exact ⟨k + 1, k, by omega, by omega, h3, by go_num, rfl, Lib.hid (by rw [HFS.out, if_pos hgt, HPE.out]), HB3.out⟩
        case measure => simp [intOf]; omega
      · go_wp2_with fail
        refine wp_region_bw2 (by kernel_rfl) (by kernel_rfl) (fun hbwc => ?_)
        repeat (go_big_quiet_step ((first | (with_reducible exact bwSame (HP.out _)) | (with_reducible exact bwSame (HQ.out _)))))
        refine wpQuiet_nil ?_
        clear hbwc
        intro w3 hb
        have HB3 : Hid (Below wa.heap.size wa w3) := HB.out.trans (((show Below wr.heap.size wr _ from (by repeat (first | exact Below.refl _ _ | assumption | refine below_drewN ?_ _ | refine Below.drew ?_ | refine Below.setCell ?_ (by first | omega | (simp; done) | (simp; omega)) _ | refine Below.alloc ?_ (by first | omega | (simp; done) | (simp; omega)) _))).trans (hb.mono (by first | omega | (simp; done) | (simp; omega)))).mono hsz)
        clear hb
        go_wp2_with fail
        go_roundw
        case rel => exact ⟨k + 1, x, by omega, by omega, hx, by go_num, rfl, Lib.hid (by rw [HFS.out, if_neg (show ¬ q < p by omega), HQE.out]), HB3.out⟩
        case measure => simp [intOf]; omega
    · obtain rfl : k = 3 := by omega
      obtain ⟨P, Q, hpq, hcv, hm, hall, hm0, hm1⟩ := co_all (n := n) HV0.out HV1.out HV2.out hx (by rw [HF.out]; exact HFK.out) hz HVB.out
      obtain ⟨m, hm'⟩ : ∃ m, ab (V x) = m := ⟨_, rfl⟩
      rw [hm'] at hpq hm0 hm1 hall HQ
      have HCV := Lib.hid hcv
      have HPQ := Lib.hid hpq
      have HAL := Lib.hid hall
      clear hpq hcv hm hall hm'
      go_wp2_with (refine (HQ.out _).mono ?_; rintro e w' ⟨rfl, rfl⟩)
      have HWR := Lib.hid (HBW.out.trans (HB.out.mono hvl))
      obtain ⟨wb, hwb⟩ : ∃ wb, wr = wb := ⟨_, rfl⟩
      rw [hwb] at HWR HXR hvr ⊢
      have hwbs : w.heap.size ≤ wb.heap.size := HWR.out.size
      clear hwb HB hsz cx
      go_loopw [9, 10] (fun o i wr => RlRel (fun j => pl n m (V j)) x wb o i wr) (fun _ i _ => 3 - (intOf i).toNat)
      case atStart => exact ⟨0, none, 0, by decide, rfl, rfl, World.ownsRow_nil _ _ _ _, Below.refl _ _⟩
      case round =>
        obtain ⟨j, D, dc, hj, rfl, rfl, HO, HB⟩ := hrel
        have hsz := HB.out.size
        have HXS := Lib.hid (HXR.out.below HB.out)
        have hvs : vb < wr.heap.size := HXS.out.lt
        by_cases hj3 : j < 3
        · have cj := HXS.out.at hj3
          have i0' : (0 : Int) ≤ (j : Int) := by omega
          have i1' : (j : Int) < 3 := by omega
          have hcl : cntO x j ≤ 3 := by unfold cntO; split <;> omega
          by_cases hjx : j = x
          · have HJ := Lib.hid hjx
            have e1 : ((j : Int) != (x : Int)) = false := by simp; omega
            clear hjx
            go_wp2_with fail
            go_roundw
            case rel =>
              have e2 : cntO x (j + 1) = cntO x j := by have := HJ.out; unfold cntO; split <;> split <;> omega
              have e3 : prefO (fun j => pl n m (V j)) x (j + 1) = prefO (fun j => pl n m (V j)) x j := by rw [prefO, if_pos HJ.out, List.append_nil]
              exact ⟨j + 1, D, dc, by omega, by go_num, by rw [e2], Lib.hid (by rw [e2, e3]; exact HO.out), HB⟩
            case measure => simp [intOf]; omega
          · have HJ := Lib.hid hjx
            have e1 : ((j : Int) != (x : Int)) = true := by simp; omega
            have hvb2 := HAL.out j hj3
            obtain ⟨v, hv⟩ : ∃ v, V j = v := ⟨_, rfl⟩
            have HVJ := Lib.hid hv
            rw [hv] at hvb2 cj
            obtain ⟨v1, v2⟩ := hvb2
            obtain ⟨m1, m2⟩ := mul_in h1 h8 hm0 hm1 v1 v2
            obtain ⟨d1, d2⟩ := tdiv_in m1 (show 0 < 2 * m by omega)
            have n0 : 2 * m ≠ 0 := by omega
            have n1 : (2 * m == 0) = false := by simpa using n0
            have k1 : wrap64 ((v + m) * n) = (v + m) * n := w64 (by omega) (by omega)
            have k2 : wrap64 (((v + m) * n).tdiv (2 * m)) = ((v + m) * n).tdiv (2 * m) := w64 (by omega) (by omega)
            have HPL : Hid (min (((v + m) * n).tdiv (2 * m)) (n - 1) = pl n m v) := by show _ = _; unfold pl; omega
            generalize hq : ((v + m) * n).tdiv (2 * m) = q at *
            generalize hp : (v + m) * n = p at *
            have HQP := Lib.hid hq
            have HPP := Lib.hid hp
            clear hjx hv
            have HOX := Lib.hid (own_below HO.out (Nat.le_refl _) ((Below.refl wr.heap.size wr).alloc (Nat.le_refl _) (.cells #[.int .i64 (min q (n - 1))] 3)))
            go_wp2_with (at_builtin; go_must (refine wpList_append_lies _ rfl _ _ 27 rfl wb.heap.size 3 i0 (.int .i64 0) 1 8 Tryz.underlying27 hi hz0 hz1 hz2 rfl (by decide) (.slice D (cntO x j) dc) (cntO x j) _ rfl HOX.out _ 1 1 [.int .i64 (min q (n - 1))] rfl rfl (World.news_of_block (heap_alloc_new wr _)) (by intro u hu; rw [List.mem_singleton.1 hu]; rfl) (by decide) (by unfold maxLen; omega) (by omega) (by simp; omega) _ rfl ?_); intro g cap w6 hown6 hg6 hat6 hlt6; have z6 := hg6.size; (try simp at z6))
            go_roundw
            case rel =>
              have e2 : cntO x (j + 1) = cntO x j + 1 := by have := HJ.out; unfold cntO; split <;> split <;> omega
              have e3 : prefO (fun j => pl n m (V j)) x (j + 1) = prefO (fun j => pl n m (V j)) x j ++ [min q (n - 1)] := by rw [prefO, if_neg HJ.out, HPL.out, HVJ.out]
              refine ⟨j + 1, some ⟨g, 0, none⟩, cap, by omega, by go_num, by rw [e2], Lib.hid ?_, Lib.hid ((HB.out.alloc (by omega) _).grown hg6 (by simp; omega) (fun g h => (own_lt HO.out h).1))⟩
              rw [e2, e3, show ints (prefO (fun j => pl n m (V j)) x j ++ [min q (n - 1)]) = ints (prefO (fun j => pl n m (V j)) x j) ++ [.int .i64 (min q (n - 1))] by simp [ints]]
              exact hown6
            case measure => simp [intOf]; omega
        · obtain rfl : j = 3 := by omega
          have hc2 : cntO x 3 = 2 := by unfold cntO; rw [if_pos (by omega)]
          have HO2 : Hid (wr.ownsRow wb.heap.size 3 1 (.slice D 2 dc) 2 (ints [P, Q])) := by
            have h := HO.out
            rw [hc2, HPQ.out] at h
            exact h
          rw [hc2]
          obtain ⟨b1, o1, hA, hb1, hc1⟩ := (Sl.of_own HO2.out).int_at (l := [P, Q]) (k := 0) (by simp) (by simp)
          subst hA
          obtain ⟨b2, o2, hA2, hb2, hc2'⟩ := (Sl.of_own HO2.out).int_at (l := [P, Q]) (k := 1) (by simp) (by simp)
          cases hA2
          simp only [List.getElem_cons_zero, List.getElem_cons_succ, Nat.add_zero] at hc1 hc2'
          have cx := HXS.out.at hx
          have hP : (0 ≤ P ∧ P < n) ∧ (0 ≤ Q ∧ Q < n) := by
            have hm := HPQ.out
            have key : ∀ y ∈ prefO (fun j => pl n m (V j)) x 3, 0 ≤ y ∧ y < n := by
              intro y hy
              simp only [prefO, List.nil_append, List.mem_append] at hy
              have one : ∀ j, j < 3 → ∀ y, y ∈ (if j = x then [] else [pl n m (V j)]) → 0 ≤ y ∧ y < n := by
                intro j hj y hy
                split at hy
                · cases hy
                · rw [List.mem_singleton.1 hy]
                  exact pl_in h1 hm0 (HAL.out j hj).1
              rcases hy with (hy | hy) | hy
              · exact one 0 (by decide) y hy
              · exact one 1 (by decide) y hy
              · exact one 2 (by decide) y hy
            exact ⟨key P (by rw [hm]; simp), key Q (by rw [hm]; simp)⟩
          obtain ⟨⟨p1, p2⟩, q1, q2⟩ := hP
          obtain ⟨vx, hvx⟩ : ∃ v, V x = v := ⟨_, rfl⟩
          rw [hvx] at cx HCV
          have HW9' := Lib.hid (HWR.out.trans (HB.out.mono hwbs))
          have hwr9 : w.heap.size ≤ wr.heap.size := by omega
          clear hvx
          by_cases hs : vx < 0
          · have hng : ng vx = 1 := by unfold ng; omega
            obtain ⟨G, hG⟩ : ∃ G, (2 * (x : Int) + 1) * n = G := ⟨_, rfl⟩
            have hG0 : 0 ≤ G ∧ G ≤ 40 := by
              rw [← hG]
              have h5 := Int.mul_le_mul (show 2 * (x : Int) + 1 ≤ 5 by omega) h8 (by omega) (by omega)
              exact ⟨Int.mul_nonneg (by omega) (by omega), by omega⟩
            obtain ⟨g0, g1⟩ := hG0
            have k1 : wrap64 ((2 * (x : Int) + 1) * n) = G := by rw [hG]; exact w64 (by omega) (by omega)
            obtain ⟨K, hK⟩ : ∃ K, (G + P) * n = K := ⟨_, rfl⟩
            have hK0 : 0 ≤ K ∧ K ≤ 384 := by
              rw [← hK]
              have h5 := Int.mul_le_mul (show G + P ≤ 48 by omega) h8 (by omega) (by omega)
              exact ⟨Int.mul_nonneg (by omega) (by omega), by omega⟩
            obtain ⟨g2, g3⟩ := hK0
            have k2 : wrap64 ((G + P) * n) = K := by rw [hK]; exact w64 (by omega) (by omega)
            have HE : Hid (cellV n a b c = K + Q) := by show _ = _; rw [HCV.out, hng, hG, hK]
            clear hng hG hK
            go_wp2_with fail
            refine wp_region_bw2 (by kernel_rfl) (by kernel_rfl) (fun hbwc => ?_)
            repeat (go_big_quiet_step (fail))
            refine wpQuiet_nil ?_
            clear hbwc
            intro w9 hb
            have HW9 := Lib.hid (HW9'.out.trans (hb.mono (by omega)))
            clear hb
            go_wp2_with fail
            go_ret2
            exact ⟨by rw [HE.out]; rfl, HW9.out⟩
          · have hng : ng vx = 0 := by unfold ng; omega
            obtain ⟨G, hG⟩ : ∃ G, 2 * (x : Int) * n = G := ⟨_, rfl⟩
            have hG0 : 0 ≤ G ∧ G ≤ 40 := by
              rw [← hG]
              have h5 := Int.mul_le_mul (show 2 * (x : Int) ≤ 5 by omega) h8 (by omega) (by omega)
              exact ⟨Int.mul_nonneg (by omega) (by omega), by omega⟩
            obtain ⟨g0, g1⟩ := hG0
            have k1 : wrap64 (2 * (x : Int) * n) = G := by rw [hG]; exact w64 (by omega) (by omega)
            obtain ⟨K, hK⟩ : ∃ K, (G + P) * n = K := ⟨_, rfl⟩
            have hK0 : 0 ≤ K ∧ K ≤ 384 := by
              rw [← hK]
              have h5 := Int.mul_le_mul (show G + P ≤ 48 by omega) h8 (by omega) (by omega)
              exact ⟨Int.mul_nonneg (by omega) (by omega), by omega⟩
            obtain ⟨g2, g3⟩ := hK0
            have k2 : wrap64 ((G + P) * n) = K := by rw [hK]; exact w64 (by omega) (by omega)
            have HE : Hid (cellV n a b c = K + Q) := by show _ = _; rw [HCV.out, hng, Int.add_zero, hG, hK]
            clear hng hG hK
            go_wp2_with fail
            refine wp_region_bw2 (by kernel_rfl) (by kernel_rfl) (fun hbwc => ?_)
            repeat (go_big_quiet_step (fail))
            refine wpQuiet_nil ?_
            clear hbwc
            intro w9 hb
            have HW9 := Lib.hid (HW9'.out.trans (hb.mono (by omega)))
            clear hb
            go_wp2_with fail
            go_ret2
            exact ⟨by rw [HE.out]; rfl, HW9.out⟩
set_option maxRecDepth 100000 in
set_option maxHeartbeats 4000000 in
theorem rCellOf_ (n : Int) (v : V3) (w : World) : Calls Tryz.prog 27 #[.int .i64 n, v3 v] w (CofT n v w) := by
  obtain ⟨a, b, c⟩ := v
  cases bg : inB n 1 8 with
  | false =>
    have e1 : cofE n (a, b, c) = 91 := by unfold cofE; rw [bg]; rfl
    have e2 : cofV n (a, b, c) = 0 := by unfold cofV; rw [e1]; rfl
    have e : CofT n (a, b, c) w = fun e w' => e = .returned (.tuple #[.int .i64 0, .int .i64 91]) ∧ Below w.heap.size w w' := by funext e w'; unfold CofT; rw [e1, e2]
    rw [e]
    clear e e1 e2
    go_enter Tryz.func27, Tryz.ntmps27
    go_wp2_with (go_at_call 29; refine (rInB_ _ _ _ _).mono ?_; rintro e w' ⟨rfl, rfl⟩; first | rw [bg])
    go_ret2
    exact ⟨rfl, (by repeat (first | exact Below.refl _ _ | assumption | refine below_drewN ?_ _ | refine Below.drew ?_ | refine Below.setCell ?_ (by first | omega | (simp; done) | (simp; omega)) _ | refine Below.alloc ?_ (by first | omega | (simp; done) | (simp; omega)) _))⟩
  | true =>
    cases ba : inB a (-1000) 1000 with
    | false =>
      have e1 : cofE n (a, b, c) = 8 := by unfold cofE; rw [bg, mostB_no.2 (.inl ba)]; rfl
      have e2 : cofV n (a, b, c) = 0 := by unfold cofV; rw [e1]; rfl
      have e : CofT n (a, b, c) w = fun e w' => e = .returned (.tuple #[.int .i64 0, .int .i64 8]) ∧ Below w.heap.size w w' := by funext e w'; unfold CofT; rw [e1, e2]
      rw [e]
      clear e e1 e2
      go_enter Tryz.func27, Tryz.ntmps27
      go_wp2_with (go_at_call 29; refine (rInB_ _ _ _ _).mono ?_; rintro e w' ⟨rfl, rfl⟩; first | rw [bg] | rw [ba])
      go_ret2
      exact ⟨rfl, (by repeat (first | exact Below.refl _ _ | assumption | refine below_drewN ?_ _ | refine Below.drew ?_ | refine Below.setCell ?_ (by first | omega | (simp; done) | (simp; omega)) _ | refine Below.alloc ?_ (by first | omega | (simp; done) | (simp; omega)) _))⟩
    | true =>
      cases bb : inB b (-1000) 1000 with
      | false =>
        have e1 : cofE n (a, b, c) = 8 := by unfold cofE; rw [bg, mostB_no.2 (.inr (.inl bb))]; rfl
        have e2 : cofV n (a, b, c) = 0 := by unfold cofV; rw [e1]; rfl
        have e : CofT n (a, b, c) w = fun e w' => e = .returned (.tuple #[.int .i64 0, .int .i64 8]) ∧ Below w.heap.size w w' := by funext e w'; unfold CofT; rw [e1, e2]
        rw [e]
        clear e e1 e2
        go_enter Tryz.func27, Tryz.ntmps27
        go_wp2_with (go_at_call 29; refine (rInB_ _ _ _ _).mono ?_; rintro e w' ⟨rfl, rfl⟩; first | rw [bg] | rw [ba] | rw [bb])
        go_ret2
        exact ⟨rfl, (by repeat (first | exact Below.refl _ _ | assumption | refine below_drewN ?_ _ | refine Below.drew ?_ | refine Below.setCell ?_ (by first | omega | (simp; done) | (simp; omega)) _ | refine Below.alloc ?_ (by first | omega | (simp; done) | (simp; omega)) _))⟩
      | true =>
        cases bc : inB c (-1000) 1000 with
        | false =>
          have e1 : cofE n (a, b, c) = 8 := by unfold cofE; rw [bg, mostB_no.2 (.inr (.inr bc))]; rfl
          have e2 : cofV n (a, b, c) = 0 := by unfold cofV; rw [e1]; rfl
          have e : CofT n (a, b, c) w = fun e w' => e = .returned (.tuple #[.int .i64 0, .int .i64 8]) ∧ Below w.heap.size w w' := by funext e w'; unfold CofT; rw [e1, e2]
          rw [e]
          clear e e1 e2
          go_enter Tryz.func27, Tryz.ntmps27
          go_wp2_with (go_at_call 29; refine (rInB_ _ _ _ _).mono ?_; rintro e w' ⟨rfl, rfl⟩; first | rw [bg] | rw [ba] | rw [bb] | rw [bc])
          go_ret2
          exact ⟨rfl, (by repeat (first | exact Below.refl _ _ | assumption | refine below_drewN ?_ _ | refine Below.drew ?_ | refine Below.setCell ?_ (by first | omega | (simp; done) | (simp; omega)) _ | refine Below.alloc ?_ (by first | omega | (simp; done) | (simp; omega)) _))⟩
        | true =>
          have hmo : mostB (a, b, c) 1000 = true := by
            cases h : mostB (a, b, c) 1000 with
            | true => rfl
            | false =>
              rcases mostB_no.1 h with h | h | h
              · rw [ba] at h; cases h
              · rw [bb] at h; cases h
              · rw [bc] at h; cases h
          cases hz : (a == 0 && (b == 0 && c == 0)) with
          | true =>
            have e1 : cofE n (a, b, c) = 4 := by unfold cofE; rw [bg, hmo]; simp only [hz]; rfl
            have e2 : cofV n (a, b, c) = 0 := by unfold cofV; rw [e1]; rfl
            have e : CofT n (a, b, c) w = fun e w' => e = .returned (.tuple #[.int .i64 0, .int .i64 4]) ∧ Below w.heap.size w w' := by funext e w'; unfold CofT; rw [e1, e2]
            rw [e]
            clear e e1 e2
            go_enter Tryz.func27, Tryz.ntmps27
            go_wp2_with (go_at_call 29; refine (rInB_ _ _ _ _).mono ?_; rintro e w' ⟨rfl, rfl⟩; first | rw [bg] | rw [ba] | rw [bb] | rw [bc])
            go_ret2
            exact ⟨rfl, (by repeat (first | exact Below.refl _ _ | assumption | refine below_drewN ?_ _ | refine Below.drew ?_ | refine Below.setCell ?_ (by first | omega | (simp; done) | (simp; omega)) _ | refine Below.alloc ?_ (by first | omega | (simp; done) | (simp; omega)) _))⟩
          | false =>
            have hg := inB_true.1 bg
            have e1 : cofE n (a, b, c) = 0 := by unfold cofE; rw [bg, hmo]; simp only [hz]; rfl
            have e2 : cofV n (a, b, c) = cellV n a b c := by unfold cofV; rw [e1]; rfl
            refine (rCellOf_ok n a b c w hg.1 hg.2 (inB_true.1 ba) (inB_true.1 bb) (inB_true.1 bc) hz).mono ?_
            rintro e w' ⟨he, hb⟩
            exact ⟨by rw [he, e1, e2], hb⟩
end Go.Proofs.YtcclfhdglhbpcaaGreatDoor

/-
  The walk of the law SkyCells.
-/
namespace Go.Proofs.YtcclfhdglhbpcaaGreatDoor
open Go.RowKit Al Cell9
attribute [local go_sem ↓] arr_eq

set_option maxRecDepth 100000 in
set_option maxHeartbeats 8000000 in
theorem skyCells_ (n c v1 v2 v3' : Int) (w : World) (hM : MxL w) : Calls Tryz.prog 5 #[.int .i64 n, .int .i64 c, .agg #[.int .i64 v1, .int .i64 v2, .int .i64 v3']] w fun e w' => e = .returned (.bool true) ∧ Below w.heap.size w w' := by
  have HM := Lib.hid hM
  obtain ⟨C, hC⟩ : ∃ C, (if inB n 1 8 then 6 * (n * n) else 0) = C := ⟨_, rfl⟩
  obtain ⟨E, hE⟩ : ∃ E, (if inB n 1 8 then (0 : Int) else 91) = E := ⟨_, rfl⟩
  have HC1 := Lib.hid (fun W => Cells_ n W)
  have HC2 := Lib.hid (fun W => rCells_ n W)
  rw [hC, hE] at HC1 HC2
  obtain ⟨d, hd⟩ : ∃ d, (if thereB n c then dirV n c else (0, 0, 0)) = d := ⟨_, rfl⟩
  obtain ⟨F, hF⟩ : ∃ F, (if thereB n c then (0 : Int) else 91) = F := ⟨_, rfl⟩
  have HD1 : Hid (∀ W, Calls Tryz.prog 24 #[.int .i64 n, .int .i64 c] W fun e w' => e = .returned (.tuple #[v3 d, .int .i64 F]) ∧ Below W.heap.size W w') := fun W => by
    have h := Direction_ n c W
    unfold DirT at h
    rw [hd, hF] at h
    exact h
  have HD2 : Hid (∀ W, Calls Tryz.prog 25 #[.int .i64 n, .int .i64 c] W fun e w' => e = .returned (.tuple #[v3 d, .int .i64 F]) ∧ Below W.heap.size W w') := fun W => by
    have h := rDirection_ n c W
    unfold DirT at h
    rw [hd, hF] at h
    exact h
  obtain ⟨K, hK⟩ : ∃ K, cofV n (v1, v2, v3') = K := ⟨_, rfl⟩
  obtain ⟨G, hG⟩ : ∃ G, cofE n (v1, v2, v3') = G := ⟨_, rfl⟩
  have HK1 : Hid (∀ W, Calls Tryz.prog 26 #[.int .i64 n, .agg #[.int .i64 v1, .int .i64 v2, .int .i64 v3']] W fun e w' => e = .returned (.tuple #[.int .i64 K, .int .i64 G]) ∧ Below W.heap.size W w') := fun W => by
    have h := CellOf_ n (v1, v2, v3') W
    unfold CofT at h
    rw [hK, hG] at h
    exact h
  have HK2 : Hid (∀ W, Calls Tryz.prog 27 #[.int .i64 n, .agg #[.int .i64 v1, .int .i64 v2, .int .i64 v3']] W fun e w' => e = .returned (.tuple #[.int .i64 K, .int .i64 G]) ∧ Below W.heap.size W w') := fun W => by
    have h := rCellOf_ n (v1, v2, v3') W
    unfold CofT at h
    rw [hK, hG] at h
    exact h
  obtain ⟨d1, d2, d3⟩ := d
  clear hC hE hd hF hK hG hM
  go_enter Tryz.func5, Tryz.ntmps5
  go_wp2_with (first
    | (go_at_call 22; refine (HC1.out _).mono ?_; rintro e w' ⟨rfl, rfl⟩)
    | (go_at_call 23; refine (HC2.out _).mono ?_; rintro e w' ⟨rfl, rfl⟩))
  refine (HD1.out _).mono ?_
  rintro e w1 ⟨rfl, hb⟩
  have HB1 : Hid (Below w.heap.size w w1) := (show Below w.heap.size w _ from (by repeat (first | exact Below.refl _ _ | assumption | refine below_drewN ?_ _ | refine Below.drew ?_ | refine Below.setCell ?_ (by first | omega | (simp; done) | (simp; omega)) _ | refine Below.alloc ?_ (by first | omega | (simp; done) | (simp; omega)) _))).trans (hb.mono (by first | omega | (simp; done) | (simp; omega)))
  have HV1 : Hid (BxA w1 w.heap.size (v1, v2, v3')) := (hb.block w.heap.size (by simp)).trans (heap_alloc_new w (.cells #[.int .i64 v1, .int .i64 v2, .int .i64 v3'] 43))
  clear hb
  obtain ⟨vb, hvb⟩ : ∃ b, w.heap.size = b := ⟨_, rfl⟩
  have hvb2 : w.heap.size ≤ vb := by omega
  rw [hvb] at HV1 ⊢
  clear hvb
  go_wp2_with fail
  have HX1 : Hid (BxA (w1.alloc (.cells #[.int .i64 d1, .int .i64 d2, .int .i64 d3] 43)) w1.heap.size (d1, d2, d3)) := heap_alloc_new w1 _
  have HB2 : Hid (Below w.heap.size w (w1.alloc (.cells #[.int .i64 d1, .int .i64 d2, .int .i64 d3] 43))) := Below.tr HB1.out (Below.al _)
  have HV2 : Hid (BxA (w1.alloc (.cells #[.int .i64 d1, .int .i64 d2, .int .i64 d3] 43)) vb (v1, v2, v3')) := HV1.out.below (Below.al _)
  obtain ⟨b1, hb1⟩ : ∃ b, w1.heap.size = b := ⟨_, rfl⟩
  obtain ⟨w2, hw2⟩ : ∃ W, w1.alloc (.cells #[.int .i64 d1, .int .i64 d2, .int .i64 d3] 43) = W := ⟨_, rfl⟩
  rw [hw2] at HX1 HB2 HV2 ⊢
  rw [hb1] at HX1 ⊢
  clear hw2 hb1 HB1 HV1
  refine (HD2.out _).mono ?_
  rintro e w3 ⟨rfl, hb⟩
  have HB3 := Lib.hid (Below.tr HB2.out hb)
  have HV3 := Lib.hid (HV2.out.below hb)
  have HX3 := Lib.hid (HX1.out.below hb)
  clear hb HB2 HV2 HX1
  have x0 := HX3.out.c0
  have x1 := HX3.out.c1
  have x2 := HX3.out.c2
  have xl := HX3.out.lt
  have l0 := HV3.out.c0
  have l1 := HV3.out.c1
  have l2 := HV3.out.c2
  have ll := HV3.out.lt
  simp only at x0 x1 x2 l0 l1 l2
  go_wp2_with fail
  have HB4 : Hid (Below w.heap.size w (w3.alloc (.cells #[.int .i64 d1, .int .i64 d2, .int .i64 d3] 43))) := Below.tr HB3.out (Below.al _)
  have HV4 : Hid (BxA (w3.alloc (.cells #[.int .i64 d1, .int .i64 d2, .int .i64 d3] 43)) vb (v1, v2, v3')) := HV3.out.below (Below.al _)
  obtain ⟨w4, hw4⟩ : ∃ W, w3.alloc (.cells #[.int .i64 d1, .int .i64 d2, .int .i64 d3] 43) = W := ⟨_, rfl⟩
  rw [hw4] at HB4 HV4 ⊢
  clear hw4 x0 x1 x2 xl l0 l1 l2 ll HB3 HV3 HX3
  refine (HK1.out _).mono ?_
  rintro e w5 ⟨rfl, hb⟩
  have HB5 := Lib.hid (Below.tr HB4.out hb)
  have HV5 := Lib.hid (HV4.out.below hb)
  clear hb HB4 HV4
  have l0 := HV5.out.c0
  have l1 := HV5.out.c1
  have l2 := HV5.out.c2
  have ll := HV5.out.lt
  simp only at l0 l1 l2
  go_wp2_with fail
  refine (HK2.out _).mono ?_
  rintro e w6 ⟨rfl, hb⟩
  have HB6 := Lib.hid (Below.tr HB5.out hb)
  clear hb l0 l1 l2 ll
  go_wp2_with fail
  refine (works_ _ (HM.out.below HB6.out (Nat.le_refl _))).mono ?_
  rintro e w7 ⟨rfl, hb⟩
  have HB7 := Lib.hid (Below.tr HB6.out hb)
  clear hb
  go_wp2_with fail
  go_ret
  exact ⟨rfl, HB7.out⟩
end Go.Proofs.YtcclfhdglhbpcaaGreatDoor
