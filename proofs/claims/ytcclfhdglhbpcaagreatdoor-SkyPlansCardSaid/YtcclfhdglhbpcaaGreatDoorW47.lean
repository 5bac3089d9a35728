/-
  The walks of the program's Gain and Plan, for all inputs.
-/
import Derived.Test.YtcclfhdglhbpcaaGreatDoorW43
import Derived.Test.YtcclfhdglhbpcaaGreatDoorW23
namespace Go.Proofs.YtcclfhdglhbpcaaGreatDoor
open Go.RowKit Al

theorem sum_set0 (o : List Int) (k : Nat) : (o.set k 0).sum + o.getD k 0 = o.sum := by
  induction o generalizing k with
  | nil => rfl
  | cons a t ih =>
    cases k with
    | zero => simp [Int.add_comm]
    | succ k =>
      have := ih k
      simp only [List.set_cons_succ, List.sum_cons, List.getD_cons_succ]
      omega
theorem takeF_sum (o l : List Int) : (takeF true o l).1 + (takeF true o l).2.sum = o.sum := by
  induction l generalizing o with
  | nil => simp [takeF]
  | cons c t ih =>
    rw [takeF]
    have h1 := ih (o.set c.toNat 0)
    have h2 := sum_set0 o c.toNat
    simp only [if_true]
    omega
theorem sum_nn {o : List Int} (h : ∀ x ∈ o, 0 ≤ x ∧ x ≤ 1000) : 0 ≤ o.sum ∧ o.sum ≤ 1000 * o.length := by
  induction o with
  | nil => simp
  | cons a t ih =>
    have h1 := ih (fun x hx => h x (List.mem_cons_of_mem _ hx))
    have h2 := h a (List.mem_cons_self ..)
    rw [List.sum_cons, List.length_cons]
    omega
/-- What looks gain, one after another: what is left; the gain. -/
def gaS (n : Int) (N : Nat) (L : List Scp) (st : List Int × Int) (x : V3) : List Int × Int := ((takeF true st.1 (coversX n N (scpAt L x.2.1) x.1.toNat x.2.2)).2, st.2 + (takeF true st.1 (coversX n N (scpAt L x.2.1) x.1.toNat x.2.2)).1)
def gaF (n : Int) (N : Nat) (L : List Scp) (lf : List Int) (p : List V3) : List Int × Int := p.foldl (gaS n N L) (lf, 0)
theorem gaF_snoc (n : Int) (N : Nat) (L : List Scp) (lf : List Int) (p : List V3) (x : V3) : gaF n N L lf (p ++ [x]) = gaS n N L (gaF n N L lf p) x := by
  unfold gaF
  rw [List.foldl_append]
  rfl
structure GaOk (N : Nat) (st : List Int × Int) : Prop where
  lf : ∀ x ∈ st.1, 0 ≤ x ∧ x ≤ 1000
  ln : st.1.length = N
  g0 : 0 ≤ st.2
  sm : st.2 + st.1.sum ≤ 384000
theorem gaS_ok {n : Int} {N : Nat} {L : List Scp} {st : List Int × Int} (h : GaOk N st) (x : V3) : GaOk N (gaS n N L st x) := by
  obtain ⟨k1, k2, k3⟩ := takeF_in true st.1 (coversX n N (scpAt L x.2.1) x.1.toNat x.2.2) h.lf
  have hs := takeF_sum st.1 (coversX n N (scpAt L x.2.1) x.1.toNat x.2.2)
  have h1 := h.g0
  have h2 := h.sm
  refine ⟨k1, ?_, ?_, ?_⟩
  · show (takeF true _ _).2.length = N
    rw [takeF_len]; exact h.ln
  · show 0 ≤ st.2 + _
    omega
  · show st.2 + _ + (takeF true _ _).2.sum ≤ 384000
    omega
theorem gaF_ok {n : Int} {N : Nat} {L : List Scp} {lf : List Int} (h : GaOk N (lf, 0)) (p : List V3) : GaOk N (gaF n N L lf p) := by
  unfold gaF
  generalize (lf, (0 : Int)) = st at h
  induction p generalizing st with
  | nil => exact h
  | cons x t ih => exact ih _ (gaS_ok h x)
def lf0 (ws sm : List Int) : List Int := prizeF ws (List.replicate ws.length 0) sm
def gE (L : List Scp) (n : Int) (ws sm : List Int) : Int := if gW L n == 0 then (if weighedB n ws sm then 0 else 93) else gW L n
def gainE (L : List Scp) (n : Int) (N : Nat) (ws sm : List Int) (p : List V3) : Int := if gE L n ws sm == 0 then (if planB L n N p then 0 else 94) else gE L n ws sm
def gainV (L : List Scp) (n : Int) (N : Nat) (ws sm : List Int) (p : List V3) : Int := if gainE L n N ws sm p = 0 then (gaF n N L (lf0 ws sm) p).2 else 0
theorem lf0_ok {n : Int} {ws sm : List Int} {N : Nat} (h1 : 1 ≤ n) (h8 : n ≤ 8) (hN : (N : Int) = 6 * (n * n)) (h : weighedB n ws sm = true) : ws.length = N ∧ GaOk N (lf0 ws sm, 0) := by
  obtain ⟨q1, q2, q3⟩ := weighedB_yes h
  have hsq := sq_in h1 h8
  have hnn : (6 : Int) * n * n = 6 * (n * n) := by rw [Int.mul_assoc]
  have hwN : ws.length = N := by omega
  have hlf : ∀ x ∈ lf0 ws sm, 0 ≤ x ∧ x ≤ 1000 := prizeF_in ws _ sm (fun x hx => by rw [List.eq_of_mem_replicate hx]; omega) q2
  have hln : (lf0 ws sm).length = N := by unfold lf0; rw [prizeF_len, List.length_replicate]; exact hwN
  refine ⟨hwN, hlf, hln, Int.le_refl _, ?_⟩
  have h2 := (sum_nn hlf).2
  show 0 + (lf0 ws sm).sum ≤ 384000
  rw [hln] at h2
  omega
theorem planB_at {L : List Scp} {n : Int} {N : Nat} {p : List V3} (h : planB L n N p = true) {k : Nat} (hk : k < p.length) : lookB L n N p[k] = true := by
  unfold planB planN at h
  have h2 := List.all_eq_true.1 h k (List.mem_range.2 hk)
  unfold planS at h2
  rw [Bool.and_eq_true] at h2
  rw [show p[k] = p.getD k (0, 0, 0) by simp [hk]]
  exact h2.1
def GnRel (C : PlC) (w : World) (F : Nat → List Int × Int) (m : Nat) (s i : Value) (wr : World) : Prop :=
  ∃ (k : Nat) (R : Nat → Prop), k ≤ m ∧ i = .int .i64 (k : Int) ∧ s = .int .i64 (F k).2 ∧ Hid (PlW R w.heap.size C.wb C.mb C.lb C.nn C.LA C.lc C.L C.n C.N w (F k).1 none 0 [] wr)
set_option maxRecDepth 100000 in
set_option maxHeartbeats 8000000 in
theorem Gain_ok (L : List Scp) (hok : ScsOk L (m0L L)) (LA : Option Addr) (lc : Nat) (n : Int) (h1 : 1 ≤ n) (h8 : n ≤ 8) (N : Nat) (hN : (N : Int) = 6 * (n * n)) (ws sm : List Int) (A B : Option Addr) (c d : Nat) (p : List V3) (PA : Option Addr) (pc : Nat) (w : World)
    (hL : Sl w w.heap.size 6 LA L.length lc (scsC L)) (hz : ∀ x ∈ L, Sl w w.heap.size 3 x.ZA x.zs.length x.zc (zsC x.zs)) (hw : Sl w w.heap.size 1 A ws.length c (ints ws)) (hs : Sl w w.heap.size 1 B sm.length d (ints sm)) (hp : Sl w w.heap.size 3 PA p.length pc (zsC p)) (hwt : weighedB n ws sm = true) :
    Calls Tryz.prog 30 #[.slice LA L.length lc, .int .i64 n, .slice A ws.length c, .slice B sm.length d, .slice PA p.length pc] w fun e w' => e = .returned (.tuple #[.int .i64 (if planB L n N p then (gaF n N L (lf0 ws sm) p).2 else 0), .int .i64 (if planB L n N p then 0 else 94)]) ∧ Below w.heap.size w w' := by
  obtain ⟨q1, q2, q3⟩ := weighedB_yes hwt
  have hsq := sq_in h1 h8
  have hnn : (6 : Int) * n * n = 6 * (n * n) := by rw [Int.mul_assoc]
  obtain ⟨hwN, hgo⟩ := lf0_ok h1 h8 hN hwt
  have hN0 : 0 < N := by omega
  have hN384 : N ≤ 384 := by omega
  have HOKS := Lib.hid hok
  have HWA := Lib.hid (watching_ok L (m0L L) hok LA lc n h1 h8 N w hL hz)
  have HWE : Hid (∀ W, Below w.heap.size w W → Calls Tryz.prog 69 #[.int .i64 n, .slice A ws.length c, .slice B sm.length d] W fun e w' => e = .returned (.bool true) ∧ ∃ q, w' = W.drewN q) := fun W hW => by
    have h := weighed_ n h1 h8 ws sm A B c d W ((hw.below hW).more hW.size) ((hs.below hW).more hW.size)
    rw [hwt] at h
    exact h
  have HPR : Hid (∀ W, Below w.heap.size w W → Calls Tryz.prog 71 #[.slice A ws.length c, .slice B sm.length d] W (PrT ws sm W)) := fun W hW => prize_ ws sm A B c d W ((hw.below hW).more hW.size) ((hs.below hW).more hW.size) (fun x hx => by have := q3 x hx; omega) (by omega) (by omega)
  have HGO := Lib.hid hgo
  have HP := Lib.hid hp
  have HNN := Lib.hid hN
  obtain ⟨pb, hpb⟩ : ∃ b, planB L n N p = b := ⟨_, rfl⟩
  have HPB := Lib.hid hpb
  have hpl : p.length ≤ maxLen := Nat.le_trans hp.cap hp.max
  unfold maxLen at hpl
  rw [hpb]
  have HWN := Lib.hid hwN
  clear hL hz hw hs hp hwt hok q1 q2 q3 hnn hwN hgo hpb hsq
  go_enter Tryz.func30, Tryz.ntmps30
  go_wp2_with fail
  refine HWA.out.mono ?_
  rintro e w1 ⟨wb, mb, rfl, hwa, hb⟩
  have HA1 := Lib.hid hwa
  have HB1 := Lib.hid hb
  have hmb1 := hwa.b1
  clear hwa hb
  go_wp2_with fail
  refine (HWE.out _ HB1.out).mono ?_
  rintro e w' ⟨rfl, q, rfl⟩
  obtain ⟨w2, hw2⟩ : ∃ W, w1.drewN q = W := ⟨_, rfl⟩
  have HB12 : Hid (Below w1.heap.size w1 w2) := by show Below _ _ _; rw [← hw2]; exact below_drewN (Below.refl _ _) q
  rw [hw2]
  clear hw2
  have HB2 := Lib.hid (HB1.out.trans (HB12.out.mono HB1.out.size))
  have HPL := Lib.hid (wplan_ w.heap.size wb mb LA lc L n h1 h8 N HNN.out HOKS.out p PA pc w2 ⟨_, HA1.out.below HB12.out⟩ ((HP.out.below HB2.out).more HB2.out.size) (fun b o h0 hb => by
    obtain ⟨b', o', e', hb', -⟩ := HP.out.at_ (by omega)
    rw [hb] at e'
    have e2 : b = b' := by cases e'; rfl
    omega))
  rw [HPB.out] at HPL
  go_wp2_with fail
  refine HPL.out.mono ?_
  rintro e w3 ⟨rfl, ⟨f3, hwa⟩, hgr⟩
  have HA3 := Lib.hid hwa
  have HB3 : Hid (Below w.heap.size w w3) := HB2.out.grown hgr HB2.out.size (fun g h => by cases h; exact hmb1)
  clear hwa hgr HPL HA1
  cases pb with
  | false =>
    go_wp2_with fail
    go_ret2
    exact ⟨rfl, HB3.out⟩
  | true =>
    go_wp2_with fail
    refine (HPR.out _ HB3.out).mono ?_
    rintro e w4 ⟨rfl, hO3, hb⟩
    rw [HWN.out] at hO3 ⊢
    have HO3 := Lib.hid hO3
    have hz3 := hb.size
    have hzw3 := HB3.out.size
    have hlb3 : w3.heap.size < w4.heap.size := (hO3.lt w3.heap.size rfl).2
    have HP3 : Hid (PlW (fun r => False ∨ r = w3.heap.size) w.heap.size wb mb w3.heap.size N LA lc L n N w (lf0 ws sm) none 0 [] w4) := by
      have e1 : lf0 ws sm = prizeF ws (List.replicate N 0) sm := by unfold lf0; rw [HWN.out]
      rw [e1]
      refine ⟨⟨_, (HA3.out.ext (Nat.le_refl _)).below hb⟩, .inr rfl, fun r hr => ?_, own_le hO3 (by omega), World.ownsRow_nil _ _ _ _, (fun g hg => by cases hg), HB3.out.trans (hb.mono (by omega))⟩
      rcases hr with hr | rfl
      · exact hr.elim
      · exact hlb3
    clear hb hO3
    obtain ⟨lb, hlb⟩ : ∃ b, w3.heap.size = b := ⟨_, rfl⟩
    rw [hlb] at HP3 ⊢
    clear hlb
    obtain ⟨F, hF⟩ : ∃ F : Nat → List Int × Int, (fun k => gaF n N L (lf0 ws sm) (p.take k)) = F := ⟨_, rfl⟩
    have HF : Hid (∀ k, F k = gaF n N L (lf0 ws sm) (p.take k)) := fun k => by rw [← hF]
    have hF0 : F 0 = (lf0 ws sm, 0) := by rw [HF.out]; rfl
    have HFE : Hid (gaF n N L (lf0 ws sm) p = F p.length) := by show _ = _; rw [HF.out, List.take_length]
    have h00 : (0 : Int) = (F 0).2 := by rw [hF0]
    rw [show lf0 ws sm = (F 0).1 by rw [hF0]] at HP3
    have H00 := Lib.hid h00
    clear hF hF0 h00
    go_wp2_with fail
    go_loopw [15, 44] (fun s i wr => GnRel ⟨wb, mb, lb, N, LA, lc, L, n, N⟩ w F p.length s i wr) (fun _ i _ => p.length - (intOf i).toNat)
    case atStart => exact ⟨0, _, Nat.zero_le _, rfl, by rw [← H00.out], HP3⟩
    case round =>
      obtain ⟨k, R, hk, rfl, rfl, HP0⟩ := hrel
      have HPW : Hid (PlW R w.heap.size wb mb lb N LA lc L n N w (F k).1 none 0 [] wr) := HP0
      clear HP0
      by_cases hlt : k < p.length
      · obtain ⟨xb, xof, rfl, hxb, c0, c1, c2⟩ := (HP.out.below HPW.out.bl).z_at hlt
        have hlk := planB_at HPB.out hlt
        have hFS : F (k + 1) = gaS n N L (F k) p[k] := by rw [HF.out, HF.out, List.take_succ_eq_append_getElem hlt, gaF_snoc]
        have hgo : GaOk N (F k) := by rw [HF.out]; exact gaF_ok HGO.out _
        obtain ⟨⟨t, s, cl⟩, hx⟩ : ∃ x, p[k] = x := ⟨_, rfl⟩
        rw [hx] at c0 c1 c2 hlk hFS
        simp only at c0 c1 c2
        unfold lookB at hlk
        rw [Bool.and_eq_true] at hlk
        obtain ⟨ht, hc⟩ := hlk
        have hci := seesX_in (List.contains_iff_mem.1 hc)
        obtain ⟨kk, hkt, hks, hkx, hkl⟩ := turn_key HOKS.out ht
        simp only at hkt hks hci
        unfold gaS at hFS
        simp only at hFS
        obtain ⟨cs, hcs⟩ : ∃ l, coversX n N (scpAt L s) t.toNat cl = l := ⟨_, rfl⟩
        have HCI : Hid (∀ y ∈ cs, 0 ≤ y ∧ y < (N : Int)) := fun y hy => coversX_in (by rw [hcs]; exact hy)
        have hcll : cs.length ≤ 384 := by have := coversX_len n N (scpAt L s) t.toNat cl; rw [hcs] at this; omega
        have HCV : Hid (∀ W R' f', WAt W R' w.heap.size wb mb LA lc L n N f' → (∀ r, R' r → r < W.heap.size) → Calls Tryz.prog 73 #[.pointer (some ⟨wb, 0, none⟩), .agg #[.int .i64 t, .int .i64 s, .int .i64 cl]] W (SeesT W R' w.heap.size wb mb LA lc L n N cs)) := fun W R' f' hW hR => by
          have h := covers_ R' w.heap.size wb mb LA lc L n h1 h8 N HNN.out f' kk _ hkx hkl cl hci.1 hci.2 W hW hR
          rw [← hkt, ← hks, show kk.1 / 4 = t.toNat by rw [hkt]; rfl, hcs] at h
          exact h
        rw [hcs] at hFS
        obtain ⟨k1, k2, k3⟩ := takeF_in true (F k).1 cs hgo.lf
        have hsum := takeF_sum (F k).1 cs
        have hsn := (sum_nn k1).1
        have hg0 := hgo.g0
        have hgs := hgo.sm
        have HGK := Lib.hid hgo
        obtain ⟨K, hK⟩ : ∃ K, (takeF true (F k).1 cs).1 = K := ⟨_, rfl⟩
        have HK := Lib.hid hK
        rw [hK] at hFS k2 k3 hsum
        have HFS := Lib.hid hFS
        have hlt' : (k : Int) < (p.length : Int) := by omega
        have hb0 := HPW.out.b0
        have hxb2 : xb < wr.heap.size := by omega
        have HPX := Lib.hid (HPW.out.below ((Below.refl _ _).alloc (Nat.le_refl _) (.cells #[.int .i64 t, .int .i64 s, .int .i64 cl] 66)))
        have hv1 : (F k).2 + K ≤ 384000 := by omega
        clear hx ht hc hci hkt hks hkx hkl hcs hK hFS hsum hsn hgs k1 hgo
        go_wp2_with fail
        obtain ⟨f6, hw6⟩ := HPX.out.ww
        refine (HCV.out _ _ f6 hw6 HPX.out.rs).mono ?_
        clear hw6
        rintro e w6 ⟨v6, f7, rfl, ⟨VB, vd, rfl, hs6, hne6⟩, hwa6, hg6⟩
        have HP6 := Lib.hid (HPX.out.mapped hg6 ⟨f7, hwa6⟩)
        have HTK := Lib.hid (take_ true (F k).1 cs lb N w.heap.size VB vd w6 HP6.out.lr hs6 (fun b o h0 hb e => (hne6 b o h0 hb).2 (e ▸ HP6.out.rl)) HGK.out.lf HCI.out hcll hN384)
        clear hs6 hne6 hwa6 hg6 c0 c1 c2
        go_wp2_with fail
        refine HTK.out.mono ?_
        rintro e w7 ⟨rfl, hO7, hg7⟩
        have HP7 := Lib.hid (HP6.out.took hg7 hO7)
        rw [HK.out]
        clear hO7 hg7
        go_wp2_with fail
        go_roundw
        case rel => exact ⟨k + 1, R, by omega, by go_num, by rw [HFS.out], Lib.hid (by rw [HFS.out]; exact HP7.out)⟩
        case measure => simp [intOf]; omega
      · obtain rfl : k = p.length := by omega
        go_wp2_with fail
        go_ret2
        exact ⟨by rw [HFE.out]; rfl, HPW.out.bl⟩
end Go.Proofs.YtcclfhdglhbpcaaGreatDoor

/-
  The program's Gain and Plan, for all inputs.
-/
namespace Go.Proofs.YtcclfhdglhbpcaaGreatDoor
open Go.RowKit Al

theorem gE_ok {L : List Scp} {n : Int} {ws sm : List Int} (h : gE L n ws sm = 0) : gW L n = 0 ∧ weighedB n ws sm = true := by
  unfold gE at h
  by_cases hg : gW L n = 0
  · refine ⟨hg, ?_⟩
    rw [hg] at h
    cases hw : weighedB n ws sm with
    | true => rfl
    | false => rw [hw] at h; exact absurd h (by decide)
  · rw [if_neg (by simpa using hg)] at h
    exact absurd h hg
theorem gE_yes {L : List Scp} {n : Int} {ws sm : List Int} (h : gW L n = 0) (hw : weighedB n ws sm = true) : gE L n ws sm = 0 := by
  unfold gE
  rw [h, hw]
  rfl
set_option maxRecDepth 100000 in
set_option maxHeartbeats 4000000 in
theorem Gain_ (L : List Scp) (LA : Option Addr) (lc : Nat) (n : Int) (N : Nat) (hN : (N : Int) = 6 * (n * n)) (ws sm : List Int) (A B : Option Addr) (c d : Nat) (p : List V3) (PA : Option Addr) (pc : Nat) (w : World)
    (hL : Sl w w.heap.size 6 LA L.length lc (scsC L)) (hz : ∀ x ∈ L, Sl w w.heap.size 3 x.ZA x.zs.length x.zc (zsC x.zs)) (hs' : ∀ x ∈ L, x.nm.size ≤ maxLen) (hw : Sl w w.heap.size 1 A ws.length c (ints ws)) (hs : Sl w w.heap.size 1 B sm.length d (ints sm)) (hp : Sl w w.heap.size 3 PA p.length pc (zsC p)) :
    Calls Tryz.prog 30 #[.slice LA L.length lc, .int .i64 n, .slice A ws.length c, .slice B sm.length d, .slice PA p.length pc] w fun e w' => e = .returned (.tuple #[.int .i64 (gainV L n N ws sm p), .int .i64 (gainE L n N ws sm p)]) ∧ Below w.heap.size w w' := by
  by_cases hg : gW L n = 0
  · obtain ⟨hb, h1, h8⟩ := gW_ok hg
    have hok := scsB_ok hb hs'
    cases hwt : weighedB n ws sm with
    | true =>
      have hge := gE_yes hg hwt
      have e1 : gainE L n N ws sm p = if planB L n N p then 0 else 94 := by unfold gainE; rw [hge]; rfl
      have e2 : gainV L n N ws sm p = if planB L n N p then (gaF n N L (lf0 ws sm) p).2 else 0 := by
        unfold gainV
        rw [e1]
        cases planB L n N p with
        | true => rfl
        | false => rfl
      rw [e1, e2]
      exact Gain_ok L hok LA lc n h1 h8 N hN ws sm A B c d p PA pc w hL hz hw hs hp hwt
    | false =>
      have e : gE L n ws sm = 93 := by unfold gE; rw [hg, hwt]; rfl
      have e1 : gainE L n N ws sm p = 93 := by unfold gainE; rw [e]; rfl
      have e2 : gainV L n N ws sm p = 0 := by unfold gainV; rw [if_neg (by rw [e1]; decide)]
      rw [e1, e2]
      clear e e1 e2 hp hN
      have HWA := Lib.hid (watching_ok L (m0L L) hok LA lc n h1 h8 N w hL hz)
      have HWE : Hid (∀ W, Below w.heap.size w W → Calls Tryz.prog 69 #[.int .i64 n, .slice A ws.length c, .slice B sm.length d] W fun e w' => e = .returned (.bool false) ∧ ∃ q, w' = W.drewN q) := fun W hW => by
        have h := weighed_ n h1 h8 ws sm A B c d W ((hw.below hW).more hW.size) ((hs.below hW).more hW.size)
        rw [hwt] at h
        exact h
      clear hL hz hw hs hs' hwt hb hg hok
      go_enter Tryz.func30, Tryz.ntmps30
      go_wp2_with fail
      refine HWA.out.mono ?_
      rintro e w1 ⟨wb, mb, rfl, hwa, hb⟩
      have HB1 := Lib.hid hb
      clear hwa hb
      go_wp2_with fail
      refine (HWE.out _ HB1.out).mono ?_
      rintro e w' ⟨rfl, q, rfl⟩
      have HB2 : Hid (Below w.heap.size w (w1.drewN q)) := below_drewN HB1.out q
      go_wp2_with fail
      go_ret2
      exact ⟨rfl, HB2.out⟩
  · have hgE : gE L n ws sm = gW L n := by unfold gE; rw [if_neg (by simpa using hg)]
    have e1 : gainE L n N ws sm p = gW L n := by unfold gainE; rw [hgE, if_neg (by simpa using hg)]
    have e2 : gainV L n N ws sm p = 0 := by unfold gainV; rw [if_neg (by rw [e1]; exact hg)]
    rw [e1, e2]
    clear e1 e2 hp hN
    obtain ⟨v, hv⟩ : ∃ v, gW L n = v := ⟨_, rfl⟩
    have HWT := Lib.hid (watching_e L LA lc n v w hv (by rw [← hv]; exact hg) hL hz hs')
    have hnz : (v != 0) = true := by rw [← hv]; simpa using hg
    rw [hv]
    clear hL hz hw hs hs' hv hg hgE
    go_enter Tryz.func30, Tryz.ntmps30
    go_wp2_with fail
    refine HWT.out.mono ?_
    rintro e w1 ⟨rfl, hb⟩
    have HB1 := Lib.hid hb
    clear hb
    go_wp2_with fail
    go_ret2
    exact ⟨rfl, HB1.out⟩
/-- Looks, a number, an error. -/
def PlanO (pl : List V3) (g v : Int) (w : World) (e : Ending) (w' : World) : Prop := ∃ PA pc, e = .returned (.tuple #[.slice PA pl.length pc, .int .i64 g, .int .i64 v]) ∧ Sl w' w'.heap.size 3 PA pl.length pc (zsC pl) ∧ Below w.heap.size w w'
theorem PlanO.none (v : Int) {w w' : World} (h : Below w.heap.size w w') : PlanO [] 0 v w (.returned (.tuple #[.slice none 0 0, .int .i64 0, .int .i64 v])) w' :=
  ⟨.none, 0, rfl, ⟨rfl, Nat.le_refl _, Nat.zero_le _, fun _ => rfl, fun h => (Nat.lt_irrefl _ h).elim⟩, h⟩
def planP (L : List Scp) (n : Int) (N : Nat) (ws sm : List Int) : PSt := if gE L n ws sm = 0 then planF n N L ⟨lf0 ws sm, [], 0⟩ (m0L L) else ⟨[], [], 0⟩
set_option maxRecDepth 100000 in
set_option maxHeartbeats 4000000 in
theorem Plan_ (L : List Scp) (LA : Option Addr) (lc : Nat) (n : Int) (N : Nat) (hN : (N : Int) = 6 * (n * n)) (ws sm : List Int) (A B : Option Addr) (c d : Nat) (w : World)
    (hL : Sl w w.heap.size 6 LA L.length lc (scsC L)) (hz : ∀ x ∈ L, Sl w w.heap.size 3 x.ZA x.zs.length x.zc (zsC x.zs)) (hs' : ∀ x ∈ L, x.nm.size ≤ maxLen) (hw : Sl w w.heap.size 1 A ws.length c (ints ws)) (hs : Sl w w.heap.size 1 B sm.length d (ints sm)) :
    Calls Tryz.prog 32 #[.slice LA L.length lc, .int .i64 n, .slice A ws.length c, .slice B sm.length d] w (PlanO (planP L n N ws sm).pl (planP L n N ws sm).g (gE L n ws sm) w) := by
  by_cases hg : gW L n = 0
  · obtain ⟨hb, h1, h8⟩ := gW_ok hg
    have hok := scsB_ok hb hs'
    cases hwt : weighedB n ws sm with
    | true =>
      have hge := gE_yes hg hwt
      have e1 : planP L n N ws sm = planF n N L ⟨lf0 ws sm, [], 0⟩ (m0L L) := by unfold planP; rw [if_pos hge]
      rw [e1, hge]
      refine (plan_ L (m0L L) hok LA lc n h1 h8 N hN ws sm A B c d w hL hz hw hs hwt).mono ?_
      rintro e w' ⟨PA, pc, rfl, h, hb⟩
      exact ⟨PA, pc, rfl, h, hb⟩
    | false =>
      have e : gE L n ws sm = 93 := by unfold gE; rw [hg, hwt]; rfl
      have e1 : planP L n N ws sm = ⟨[], [], 0⟩ := by unfold planP; rw [if_neg (by rw [e]; decide)]
      rw [e1, e]
      clear e e1 hN
      have HWA := Lib.hid (watching_ok L (m0L L) hok LA lc n h1 h8 N w hL hz)
      have HWE : Hid (∀ W, Below w.heap.size w W → Calls Tryz.prog 69 #[.int .i64 n, .slice A ws.length c, .slice B sm.length d] W fun e w' => e = .returned (.bool false) ∧ ∃ q, w' = W.drewN q) := fun W hW => by
        have h := weighed_ n h1 h8 ws sm A B c d W ((hw.below hW).more hW.size) ((hs.below hW).more hW.size)
        rw [hwt] at h
        exact h
      clear hL hz hw hs hs' hwt hb hg hok
      go_enter Tryz.func32, Tryz.ntmps32
      go_wp2_with fail
      refine HWA.out.mono ?_
      rintro e w1 ⟨wb, mb, rfl, hwa, hb⟩
      have HB1 := Lib.hid hb
      clear hwa hb
      go_wp2_with fail
      refine (HWE.out _ HB1.out).mono ?_
      rintro e w' ⟨rfl, q, rfl⟩
      have HB2 : Hid (Below w.heap.size w (w1.drewN q)) := below_drewN HB1.out q
      go_wp2_with fail
      go_ret3
      exact PlanO.none 93 HB2.out
  · have hgE : gE L n ws sm = gW L n := by unfold gE; rw [if_neg (by simpa using hg)]
    have e1 : planP L n N ws sm = ⟨[], [], 0⟩ := by unfold planP; rw [if_neg (by rw [hgE]; exact hg)]
    rw [e1, hgE]
    clear e1 hN
    obtain ⟨v, hv⟩ : ∃ v, gW L n = v := ⟨_, rfl⟩
    have HWT := Lib.hid (watching_e L LA lc n v w hv (by rw [← hv]; exact hg) hL hz hs')
    have hnz : (v != 0) = true := by rw [← hv]; simpa using hg
    rw [hv]
    clear hL hz hw hs hs' hv hg hgE
    go_enter Tryz.func32, Tryz.ntmps32
    go_wp2_with fail
    refine HWT.out.mono ?_
    rintro e w1 ⟨rfl, hb⟩
    have HB1 := Lib.hid hb
    clear hb
    go_wp2_with fail
    go_ret3
    exact PlanO.none v HB1.out
end Go.Proofs.YtcclfhdglhbpcaaGreatDoor
