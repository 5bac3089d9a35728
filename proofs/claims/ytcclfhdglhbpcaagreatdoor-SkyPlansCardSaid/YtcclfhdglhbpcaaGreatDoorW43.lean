/-
  The walks of the program's plan and Covers, for all inputs.
-/
import Derived.Test.YtcclfhdglhbpcaaGreatDoorW42
import Derived.Deep.RegionHeld3
namespace Go.Proofs.YtcclfhdglhbpcaaGreatDoor
open Go.RowKit Al

theorem Sl.kg {W W' : World} {sz n c r : Nat} {A : Option Addr} {xs : List Value} (h : Sl W W.heap.size sz A n c xs) (g : W.grownBy W' (some r)) (hne : ∀ b o, 0 < n → A = some ⟨b, o, none⟩ → b ≠ r) : Sl W' W'.heap.size sz A n c xs := by
  refine ⟨h.len, h.cap, h.max, h.nil_, fun h0 => ?_⟩
  obtain ⟨b, off, e, hb, hc⟩ := h.at_ h0
  have hbk := g.block b hb (fun e2 => hne b off h0 e (Option.some.inj e2))
  exact ⟨b, off, e, Nat.lt_of_lt_of_le hb g.size, fun j u hu => by
    have : W'.cell? ⟨b, off + j, none⟩ = W.cell? ⟨b, off + j, none⟩ := by simp [World.cell?, hbk]
    exact this.trans (hc j u hu)⟩
theorem grownBl {A B : World} (h : Below A.heap.size A B) (g : Nat) : A.grownBy B (some g) := ⟨h.os, h.tape, h.output, h.size, fun k hk _ => h.block k hk⟩
/-- Does a look follow another one? -/
def riseB (a x : V3) : Bool := !(decide (x.1 < a.1) || (a.1 == x.1 && decide (x.2.1 ≤ a.2.1)))
def lookB (L : List Scp) (n : Int) (N : Nat) (x : V3) : Bool := turnB L x.1 x.2.1 && (seesX n N (scpAt L x.2.1) x.1.toNat).contains x.2.2
def planS (L : List Scp) (n : Int) (N : Nat) (p : List V3) (i : Nat) : Bool := lookB L n N (p.getD i (0, 0, 0)) && (i == 0 || riseB (p.getD (i - 1) (0, 0, 0)) (p.getD i (0, 0, 0)))
def planN (L : List Scp) (n : Int) (N : Nat) (p : List V3) (k : Nat) : Bool := (List.range k).all (planS L n N p)
def planB (L : List Scp) (n : Int) (N : Nat) (p : List V3) : Bool := planN L n N p p.length
theorem planN_succ (L : List Scp) (n : Int) (N : Nat) (p : List V3) (k : Nat) : planN L n N p (k + 1) = (planN L n N p k && planS L n N p k) := by
  unfold planN
  rw [List.range_succ, List.all_append]
  simp
theorem planB_no {L : List Scp} {n : Int} {N : Nat} {p : List V3} {k : Nat} (hk : k < p.length) (h : planS L n N p k = false) : planB L n N p = false := by
  unfold planB planN
  rw [List.all_eq_false]
  exact ⟨k, by simpa using hk, by rw [h]; simp⟩
def PnRel (B0 wb mb : Nat) (LA : Option Addr) (lc : Nat) (L : List Scp) (n : Int) (N : Nat) (p : List V3) (W0 : World) (i : Value) (wr : World) : Prop := ∃ k : Nat, k ≤ p.length ∧ i = .int .i64 (k : Int) ∧ Hid (planN L n N p k = true) ∧ Hid (∃ f, WAt wr (fun _ => False) B0 wb mb LA lc L n N f) ∧ Hid (W0.grownBy wr (some mb))
/-- What plan hands back: whether these are looks of a plan; the watch as it is then. -/
def PlnT (W : World) (B0 wb mb : Nat) (LA : Option Addr) (lc : Nat) (L : List Scp) (n : Int) (N : Nat) (b : Bool) (e : Ending) (W' : World) : Prop := e = .returned (.bool b) ∧ (∃ f, WAt W' (fun _ => False) B0 wb mb LA lc L n N f) ∧ W.grownBy W' (some mb)
set_option maxRecDepth 100000 in
set_option maxHeartbeats 16000000 in
theorem wplan_ (B0 wb mb : Nat) (LA : Option Addr) (lc : Nat) (L : List Scp) (n : Int) (h1 : 1 ≤ n) (h8 : n ≤ 8) (N : Nat) (hN : (N : Int) = 6 * (n * n)) (hok : ScsOk L (m0L L)) (p : List V3) (PA : Option Addr) (pc : Nat) (W : World)
    (hW : ∃ f, WAt W (fun _ => False) B0 wb mb LA lc L n N f) (hp : Sl W W.heap.size 3 PA p.length pc (zsC p)) (hne : ∀ b o, 0 < p.length → PA = some ⟨b, o, none⟩ → b ≠ mb) :
    Calls Tryz.prog 70 #[.pointer (some ⟨wb, 0, none⟩), .slice PA p.length pc] W (PlnT W B0 wb mb LA lc L n N (planB L n N p)) := by
  have HP := Lib.hid hp
  have HW := Lib.hid hW
  have HNE := Lib.hid hne
  have hpl : p.length ≤ maxLen := Nat.le_trans hp.cap hp.max
  unfold maxLen at hpl
  have l1 := hok.l1
  have l4 := hok.l4
  have hx0 := hok.ok _ (List.getElem_mem (show 0 < L.length from l1))
  have hm8 : m0L L ≤ 8 := by have := hx0.zm; have := hx0.z8; omega
  have HTU := Lib.hid (fun t s W' f' (hW' : WAt W' (fun _ => False) B0 wb mb LA lc L n N f') => turn_ (fun _ => False) B0 wb mb LA lc L n N f' t s W' hW' l1 l4 hm8)
  have HSE := Lib.hid (fun (t s : Int) (h : turnB L t s = true) W' f' (hW' : WAt W' (fun _ => False) B0 wb mb LA lc L n N f') => (show Calls Tryz.prog 77 #[.pointer (some ⟨wb, 0, none⟩), .int .i64 t, .int .i64 s] W' (SeesT W' (fun _ => False) B0 wb mb LA lc L n N (seesX n N (scpAt L s) t.toNat)) from by
    obtain ⟨k, hkt, hks, hkx, hkl⟩ := turn_key hok h
    have h2 := sees_ (fun _ => False) B0 wb mb LA lc L n h1 h8 N hN f' k _ hkx hkl W' hW' (fun r h => h.elim)
    rw [← hkt, ← hks] at h2
    rw [show t.toNat = k.1 / 4 by rw [hkt]; rfl]
    exact h2))
  clear hW hp hne hok hx0
  go_enter Tryz.func70, Tryz.ntmps70
  go_wp2_with fail
  go_loopw [9] (fun i wr => PnRel B0 wb mb LA lc L n N p W i wr) (fun i _ => p.length - (intOf i).toNat)
  case atStart => exact ⟨0, Nat.zero_le _, rfl, rfl, HW, World.grownBy.refl _ _⟩
  case round =>
    obtain ⟨k, hk, rfl, HN, HWA, HG⟩ := hrel
    have hszr := HG.out.size
    by_cases hlt : k < p.length
    · obtain ⟨f0, hwa⟩ := HWA.out
      have HWF := Lib.hid hwa
      have HPR := Lib.hid (HP.out.kg HG.out HNE.out)
      obtain ⟨pb, pof, hpa, hpb, c0, c1, c2⟩ := HPR.out.z_at hlt
      subst hpa
      have hpbm := HNE.out pb pof (by omega) rfl
      have hst : planS L n N p k = (lookB L n N p[k] && (k == 0 || riseB (p.getD (k - 1) (0, 0, 0)) p[k])) := by unfold planS; rw [show p.getD k (0, 0, 0) = p[k] by simp [hlt]]
      have HBAD : Hid ((lookB L n N p[k] && (k == 0 || riseB (p.getD (k - 1) (0, 0, 0)) p[k])) = false → planB L n N p = false) := fun h => planB_no hlt (by rw [hst]; exact h)
      have HOK : Hid ((lookB L n N p[k] && (k == 0 || riseB (p.getD (k - 1) (0, 0, 0)) p[k])) = true → planN L n N p (k + 1) = true) := fun h => by rw [planN_succ, HN.out, hst, h]; rfl
      obtain ⟨⟨t, s, cl⟩, hx⟩ : ∃ x, p[k] = x := ⟨_, rfl⟩
      rw [hx] at c0 c1 c2 HBAD HOK
      simp only at c0 c1 c2
      have hlk : lookB L n N (t, s, cl) = (turnB L t s && (seesX n N (scpAt L s) t.toNat).contains cl) := rfl
      rw [hlk] at HBAD HOK
      have hlt' : (k : Int) < (p.length : Int) := by omega
      have hmr : mb < wr.heap.size := by obtain ⟨c, hm⟩ := hwa.mp; exact hm.lt
      clear hwa hst hx hlk
      go_upto_region 4 with fail
      have HX : Hid (Bx3 (wr.alloc (.cells #[.int .i64 t, .int .i64 s, .int .i64 cl] 66)) wr.heap.size (t, s, cl)) := heap_alloc_new wr _
      have HBX : Hid (Below wr.heap.size wr (wr.alloc (.cells #[.int .i64 t, .int .i64 s, .int .i64 cl] 66))) := (Below.refl _ _).alloc (Nat.le_refl _) _
      obtain ⟨X, hX⟩ : ∃ X, wr.alloc (.cells #[.int .i64 t, .int .i64 s, .int .i64 cl] 66) = X := ⟨_, rfl⟩
      rw [hX] at HX HBX ⊢
      have HWX := Lib.hid (HWF.out.below HBX.out)
      have HPX := Lib.hid (HPR.out.bT HBX.out)
      have HGX := Lib.hid (HG.out.trans (grownBl HBX.out mb))
      obtain ⟨xb, hxb⟩ : ∃ b, wr.heap.size = b := ⟨_, rfl⟩
      rw [hxb] at HX hmr hpb ⊢
      have hxm : xb ≠ mb := by omega
      have x0 := HX.out.c0
      have x1 := HX.out.c1
      have x2 := HX.out.c2
      have xl := HX.out.lt
      simp only at x0 x1 x2
      clear hX hxb c0 c1 c2 HWF HPR HG hszr HBX HWA
      cases ht : turnB L t s with
      | false =>
        have HNO : Hid (planB L n N p = false) := HBAD.out (by rw [ht]; rfl)
        have HTZ := Lib.hid (fun z : BW X => HTU.out t s z.w f0 (HWX.out.below z.below))
        rw [ht] at HTZ
        go_wp2_with fail
        refine wp_region_bw2 (by kernel_rfl) (by kernel_rfl) (fun hbwc => ?_)
        repeat (go_big_quiet_step ((with_reducible exact bwSame (HTZ.out _))))
        refine wpQuiet_nil ?_
        clear hbwc
        intro w3 hb
        have HB3 : Hid (Below X.heap.size X w3) := (show Below X.heap.size X _ from (by repeat (first | exact Below.refl _ _ | assumption | refine below_drewN ?_ _ | refine Below.drew ?_ | refine Below.setCell ?_ (by first | omega | (simp; done) | (simp; omega)) _ | refine Below.alloc ?_ (by first | omega | (simp; done) | (simp; omega)) _))).trans (hb.mono (by first | omega | (simp; done) | (simp; omega)))
        clear hb
        go_wp2_with fail
        go_ret
        exact ⟨ret_bool HNO.out.symm, ⟨f0, HWX.out.below HB3.out⟩, HGX.out.trans (grownBl HB3.out mb)⟩
      | true =>
        have HTT := Lib.hid (fun W' f' hW' => HTU.out t s W' f' hW')
        rw [ht] at HTT HBAD HOK
        have HSS := Lib.hid (fun W' f' hW' => HSE.out t s ht W' f' hW')
        obtain ⟨V, hV⟩ : ∃ l, seesX n N (scpAt L s) t.toNat = l := ⟨_, rfl⟩
        rw [hV] at HSS HBAD HOK
        obtain ⟨cb, hcb⟩ : ∃ b, V.contains cl = b := ⟨_, rfl⟩
        rw [hcb] at HBAD HOK
        have HCB := Lib.hid hcb
        clear hV hcb ht
        have DC : Below X.heap.size X X := Below.refl _ _
        go_region_held3 (fun w' => ∀ o, w'.cell? ⟨xb, o, none⟩ = X.cell? ⟨xb, o, none⟩) (first | exact kN | exact fun o => (show Below X.heap.size X _ from (by (repeat (first | exact Below.refl _ _ | assumption | refine below_drewN ?_ _ | refine Below.drew ?_ | refine Below.setCell ?_ (by first | omega | (simp; done) | (simp; omega)) _ | refine Below.alloc ?_ (by first | omega | (simp; done) | (simp; omega)) _)))).cell (p := ⟨xb, o, none⟩) xl)
          (first
          | (go_at_call 88; refine (HTT.out _ _ (HWX.out.below (by (repeat (first | exact Below.refl _ _ | assumption | refine below_drewN ?_ _ | refine Below.drew ?_ | refine Below.setCell ?_ (by first | omega | (simp; done) | (simp; omega)) _ | refine Below.alloc ?_ (by first | omega | (simp; done) | (simp; omega)) _))))).mono ?_; rintro e wt ⟨rfl, rfl⟩)
          | (go_at_call 77; refine (HSS.out _ _ (HWX.out.below (by (repeat (first | exact Below.refl _ _ | assumption | refine below_drewN ?_ _ | refine Below.drew ?_ | refine Below.setCell ?_ (by first | omega | (simp; done) | (simp; omega)) _ | refine Below.alloc ?_ (by first | omega | (simp; done) | (simp; omega)) _))))).mono ?_; rintro e wn ⟨vs, f1, rfl, hsv, hwa1, hgr1⟩; obtain ⟨VA, vc, rfl, hvs, hvn⟩ := hsv; have HVS := Lib.hid hvs; have HWN := Lib.hid hwa1; have HGN : Hid (X.grownBy wn (some mb)) := (grownBl (show Below X.heap.size X _ from (by (repeat (first | exact Below.refl _ _ | assumption | refine below_drewN ?_ _ | refine Below.drew ?_ | refine Below.setCell ?_ (by first | omega | (simp; done) | (simp; omega)) _ | refine Below.alloc ?_ (by first | omega | (simp; done) | (simp; omega)) _)))) mb).trans hgr1; have kN := (fun o => (show wn.cell? ⟨xb, o, none⟩ = X.cell? ⟨xb, o, none⟩ from by simp [World.cell?, HGN.out.block xb xl (fun e => hxm (Option.some.inj e))])); clear hvs hwa1 hgr1 hvn)
          | (go_at_call 111; refine (ContainsI_ V cl VA vc _ HVS.out).mono ?_; rintro e wt ⟨rfl, rfl⟩; rw [HCB.out]))
        have HGW := Lib.hid (HGX.out.trans HGN.out)
        have HPN := Lib.hid (HPX.out.kg HGN.out HNE.out)
        have y0 := (kN 0).trans x0
        have y1 := (kN 1).trans x1
        have yl : xb < wn.heap.size := Nat.lt_of_lt_of_le xl HGN.out.size
        obtain ⟨w4, hw4⟩ : ∃ w4, w4 = wn := ⟨_, rfl⟩
        rw [← hw4] at HGW HPN HWN y0 y1 yl ⊢
        clear hw4 kN HGN HVS x0 x1 x2 xl DC HX HPX HWX
        cases cb with
        | false =>
          have HNO : Hid (planB L n N p = false) := HBAD.out rfl
          go_wp2_with fail
          go_ret
          exact ⟨ret_bool HNO.out.symm, ⟨f1, HWN.out⟩, HGW.out⟩
        | true =>
          by_cases hk0 : k = 0
          · have hd0 : decide ((0 : Int) < (k : Int)) = false := decide_eq_false (by omega)
            have hd9 : decide (0 < k) = false := decide_eq_false (by omega)
            have HST : Hid (planN L n N p (k + 1) = true) := HOK.out (by simp [hk0])
            clear hk0
            go_wp2_with fail
            refine wp_region_bw2 (by kernel_rfl) (by kernel_rfl) (fun hbwc => ?_)
            repeat (go_big_quiet_step (fail))
            refine wpQuiet_nil ?_
            clear hbwc
            intro w8 hb
            have HB8 : Hid (Below w4.heap.size w4 w8) := (show Below w4.heap.size w4 _ from (by repeat (first | exact Below.refl _ _ | assumption | refine below_drewN ?_ _ | refine Below.drew ?_ | refine Below.setCell ?_ (by first | omega | (simp; done) | (simp; omega)) _ | refine Below.alloc ?_ (by first | omega | (simp; done) | (simp; omega)) _))).trans (hb.mono (by first | omega | (simp; done) | (simp; omega)))
            clear hb
            go_wp2_with fail
            go_roundw
            case rel => exact ⟨k + 1, by omega, by go_num, HST, Lib.hid ⟨f1, HWN.out.below HB8.out⟩, Lib.hid (HGW.out.trans (grownBl HB8.out mb))⟩
            case measure => simp [intOf]; omega
          · have hd0 : decide ((0 : Int) < (k : Int)) = true := decide_eq_true (by omega)
            have hd9 : decide (0 < k) = true := decide_eq_true (by omega)
            obtain ⟨pb', pof', hA, hpb', d0, d1, -⟩ := HPN.out.z_at (k := k - 1) (by omega)
            cases hA
            have i0 : (0 : Int) ≤ (k : Int) - 1 := by omega
            have i1 : (k : Int) - 1 < (p.length : Int) := by omega
            have i2 : ((k : Int) - 1).toNat = k - 1 := by omega
            have hpv : p.getD (k - 1) (0, 0, 0) = p[k - 1] := by simp [show k - 1 < p.length by omega]
            obtain ⟨⟨a, b, bc⟩, hpe⟩ : ∃ x, p[k - 1]'(by omega) = x := ⟨_, rfl⟩
            have hkb : (k == 0) = false := by simpa using hk0
            rw [hpv, hpe, hkb] at HBAD HOK
            rw [hpe] at d0 d1
            simp only at d0 d1
            have hri : riseB (a, b, bc) (t, s, cl) = !(decide (t < a) || (a == t && decide (s ≤ b))) := rfl
            rw [hri] at HBAD HOK
            clear hpv hpe hkb hk0 hri
            by_cases hta : t < a
            · have e1 : decide (t < a) = true := decide_eq_true hta
              have HNO : Hid (planB L n N p = false) := HBAD.out (by rw [e1]; rfl)
              clear e1
              go_wp2_with fail
              refine wp_region_bw2 (by kernel_rfl) (by kernel_rfl) (fun hbwc => ?_)
              repeat (go_big_quiet_step (fail))
              refine wpQuiet_nil ?_
              clear hbwc
              intro w8 hb
              have HB8 : Hid (Below w4.heap.size w4 w8) := (show Below w4.heap.size w4 _ from (by repeat (first | exact Below.refl _ _ | assumption | refine below_drewN ?_ _ | refine Below.drew ?_ | refine Below.setCell ?_ (by first | omega | (simp; done) | (simp; omega)) _ | refine Below.alloc ?_ (by first | omega | (simp; done) | (simp; omega)) _))).trans (hb.mono (by first | omega | (simp; done) | (simp; omega)))
              clear hb
              go_wp2_with fail
              go_ret
              exact ⟨ret_bool HNO.out.symm, ⟨f1, HWN.out.below HB8.out⟩, HGW.out.trans (grownBl HB8.out mb)⟩
            · have e1 : decide (t < a) = false := decide_eq_false hta
              by_cases hat : a = t
              · have e2 : (a == t) = true := by simpa using hat
                by_cases hsb : s ≤ b
                · have e3 : decide (s ≤ b) = true := decide_eq_true hsb
                  have HNO : Hid (planB L n N p = false) := HBAD.out (by rw [e1, e2, e3]; rfl)
                  clear e1 e3
                  go_wp2_with fail
                  refine wp_region_bw2 (by kernel_rfl) (by kernel_rfl) (fun hbwc => ?_)
                  repeat (go_big_quiet_step (fail))
                  refine wpQuiet_nil ?_
                  clear hbwc
                  intro w8 hb
                  have HB8 : Hid (Below w4.heap.size w4 w8) := (show Below w4.heap.size w4 _ from (by repeat (first | exact Below.refl _ _ | assumption | refine below_drewN ?_ _ | refine Below.drew ?_ | refine Below.setCell ?_ (by first | omega | (simp; done) | (simp; omega)) _ | refine Below.alloc ?_ (by first | omega | (simp; done) | (simp; omega)) _))).trans (hb.mono (by first | omega | (simp; done) | (simp; omega)))
                  clear hb
                  go_wp2_with fail
                  go_ret
                  exact ⟨ret_bool HNO.out.symm, ⟨f1, HWN.out.below HB8.out⟩, HGW.out.trans (grownBl HB8.out mb)⟩
                · have e3 : decide (s ≤ b) = false := decide_eq_false hsb
                  have HST : Hid (planN L n N p (k + 1) = true) := HOK.out (by rw [e1, e2, e3]; rfl)
                  clear e1 e3
                  go_wp2_with fail
                  refine wp_region_bw2 (by kernel_rfl) (by kernel_rfl) (fun hbwc => ?_)
                  repeat (go_big_quiet_step (fail))
                  refine wpQuiet_nil ?_
                  clear hbwc
                  intro w8 hb
                  have HB8 : Hid (Below w4.heap.size w4 w8) := (show Below w4.heap.size w4 _ from (by repeat (first | exact Below.refl _ _ | assumption | refine below_drewN ?_ _ | refine Below.drew ?_ | refine Below.setCell ?_ (by first | omega | (simp; done) | (simp; omega)) _ | refine Below.alloc ?_ (by first | omega | (simp; done) | (simp; omega)) _))).trans (hb.mono (by first | omega | (simp; done) | (simp; omega)))
                  clear hb
                  go_wp2_with fail
                  go_roundw
                  case rel => exact ⟨k + 1, by omega, by go_num, HST, Lib.hid ⟨f1, HWN.out.below HB8.out⟩, Lib.hid (HGW.out.trans (grownBl HB8.out mb))⟩
                  case measure => simp [intOf]; omega
              · have e2 : (a == t) = false := by simpa using hat
                have HST : Hid (planN L n N p (k + 1) = true) := HOK.out (by rw [e1, e2]; rfl)
                go_wp2_with fail
                refine wp_region_bw2 (by kernel_rfl) (by kernel_rfl) (fun hbwc => ?_)
                repeat (go_big_quiet_step (fail))
                refine wpQuiet_nil ?_
                clear hbwc
                intro w8 hb
                have HB8 : Hid (Below w4.heap.size w4 w8) := (show Below w4.heap.size w4 _ from (by repeat (first | exact Below.refl _ _ | assumption | refine below_drewN ?_ _ | refine Below.drew ?_ | refine Below.setCell ?_ (by first | omega | (simp; done) | (simp; omega)) _ | refine Below.alloc ?_ (by first | omega | (simp; done) | (simp; omega)) _))).trans (hb.mono (by first | omega | (simp; done) | (simp; omega)))
                clear hb
                go_wp2_with fail
                go_roundw
                case rel => exact ⟨k + 1, by omega, by go_num, HST, Lib.hid ⟨f1, HWN.out.below HB8.out⟩, Lib.hid (HGW.out.trans (grownBl HB8.out mb))⟩
                case measure => simp [intOf]; omega
    · obtain rfl : k = p.length := by omega
      have HY : Hid (planB L n N p = true) := HN.out
      go_wp2_with fail
      go_ret
      exact ⟨ret_bool HY.out.symm, HWA.out, HG.out⟩
end Go.Proofs.YtcclfhdglhbpcaaGreatDoor

/-
  The walk of the program's Covers, for all inputs.
-/
namespace Go.Proofs.YtcclfhdglhbpcaaGreatDoor
open Go.RowKit Al

/-- A number and a list of ints that reads. -/
def OutS (v : Int) (l : List Int) (w : World) (e : Ending) (w' : World) : Prop := ∃ A c, e = .returned (.tuple #[.slice A l.length c, .int .i64 v]) ∧ Sl w' w'.heap.size 1 A l.length c (ints l) ∧ Below w.heap.size w w'
theorem OutS.none (v : Int) {w w' : World} (h : Below w.heap.size w w') : OutS v [] w (.returned (.tuple #[.slice none 0 0, .int .i64 v])) w' :=
  ⟨.none, 0, rfl, ⟨rfl, Nat.le_refl _, Nat.zero_le _, fun _ => rfl, fun h => (Nat.lt_irrefl _ h).elim⟩, h⟩
theorem planB_one (L : List Scp) (n : Int) (N : Nat) (x : V3) : planB L n N [x] = lookB L n N x := by
  unfold planB planN planS
  simp
def covE (L : List Scp) (n : Int) (N : Nat) (x : V3) : Int := if gW L n == 0 then (if lookB L n N x then 0 else 94) else gW L n
def covL (L : List Scp) (n : Int) (N : Nat) (x : V3) : List Int := if covE L n N x = 0 then coversX n N (scpAt L x.2.1) x.1.toNat x.2.2 else []
set_option maxRecDepth 100000 in
set_option maxHeartbeats 8000000 in
theorem Covers_ (L : List Scp) (A : Option Addr) (c : Nat) (n : Int) (x : V3) (w : World) (hL : Sl w w.heap.size 6 A L.length c (scsC L)) (hz : ∀ x ∈ L, Sl w w.heap.size 3 x.ZA x.zs.length x.zc (zsC x.zs)) (hs : ∀ x ∈ L, x.nm.size ≤ maxLen) (N : Nat) (hN : (N : Int) = 6 * (n * n)) :
    Calls Tryz.prog 40 #[.slice A L.length c, .int .i64 n, v3 x] w (OutS (covE L n N x) (covL L n N x) w) := by
  obtain ⟨t, s, cl⟩ := x
  have HX0 : Hid (Bx3 (w.alloc (.cells #[.int .i64 t, .int .i64 s, .int .i64 cl] 66)) w.heap.size (t, s, cl)) := heap_alloc_new w _
  have HBX : Hid (Below w.heap.size w (w.alloc (.cells #[.int .i64 t, .int .i64 s, .int .i64 cl] 66))) := (Below.refl _ _).alloc (Nat.le_refl _) _
  have HL2 := Lib.hid ((hL.below HBX.out).more HBX.out.size)
  have HZ2 := Lib.hid (fun y hy => ((hz y hy).below HBX.out).more HBX.out.size)
  have hxs : (w.alloc (.cells #[.int .i64 t, .int .i64 s, .int .i64 cl] 66)).heap.size = w.heap.size + 1 := by simp
  by_cases hg : gW L n = 0
  · obtain ⟨hb, h1, h8⟩ := gW_ok hg
    have hok := scsB_ok hb hs
    have HOK := Lib.hid hok
    obtain ⟨lk, hlk⟩ : ∃ b, lookB L n N (t, s, cl) = b := ⟨_, rfl⟩
    have HLK := Lib.hid hlk
    have HPB : Hid (planB L n N [(t, s, cl)] = lk) := (planB_one L n N _).trans hlk
    obtain ⟨cE, hcE⟩ : ∃ v, covE L n N (t, s, cl) = v := ⟨_, rfl⟩
    obtain ⟨cL, hcL⟩ : ∃ l, covL L n N (t, s, cl) = l := ⟨_, rfl⟩
    have HE : Hid (cE = if lk then 0 else 94) := by show _ = _; rw [← hcE]; unfold covE; rw [hg, hlk]; rfl
    have HLL : Hid (cL = if cE = 0 then coversX n N (scpAt L s) t.toNat cl else []) := by show _ = _; rw [← hcL, ← hcE]; rfl
    rw [hcE, hcL]
    clear hcE hcL
    clear hL hz hs hlk hg hb hok
    go_enter Tryz.func40, Tryz.ntmps40
    go_wp2_with fail
    obtain ⟨wx, hwx⟩ : ∃ W, w.alloc (.cells #[.int .i64 t, .int .i64 s, .int .i64 cl] 66) = W := ⟨_, rfl⟩
    rw [hwx] at HX0 HBX HL2 HZ2 hxs ⊢
    have HWT := Lib.hid (watching_ok L (m0L L) HOK.out A c n h1 h8 N wx HL2.out HZ2.out)
    obtain ⟨xb, hxb⟩ : ∃ b, w.heap.size = b := ⟨_, rfl⟩
    rw [hxb] at HX0 ⊢
    have hxb1 : xb < wx.heap.size := by omega
    have hwx1 : w.heap.size ≤ wx.heap.size := by omega
    clear hwx hxb hxs
    refine HWT.out.mono ?_
    rintro e w1 ⟨wb, mb, rfl, hwa, hb⟩
    have HWA := Lib.hid hwa
    have HB1 := Lib.hid (HBX.out.trans (hb.mono hwx1))
    have HX1 := Lib.hid (HX0.out.below hb)
    have hz1 := hb.size
    have hmb := hwa.b1
    have hml : mb < w1.heap.size := by obtain ⟨cc, hm⟩ := hwa.mp; exact hm.lt
    clear hb hwa HX0
    have x0 := HX1.out.c0
    have x1 := HX1.out.c1
    have x2 := HX1.out.c2
    have xl := HX1.out.lt
    simp only at x0 x1 x2
    go_wp2_with fail
    have HT2 : Hid (Sl (w1.alloc (.cells #[.int .i64 t, .int .i64 s, .int .i64 cl] 66)) (w1.alloc (.cells #[.int .i64 t, .int .i64 s, .int .i64 cl] 66)).heap.size 3 (some ⟨w1.heap.size, 0, none⟩) [(t, s, cl)].length 1 (zsC [(t, s, cl)])) := sl_new (heap_alloc_new w1 _) rfl (by unfold maxLen; simp)
    have HB2 : Hid (Below w1.heap.size w1 (w1.alloc (.cells #[.int .i64 t, .int .i64 s, .int .i64 cl] 66))) := (Below.refl _ _).alloc (Nat.le_refl _) _
    obtain ⟨w2, hw2⟩ : ∃ W, w1.alloc (.cells #[.int .i64 t, .int .i64 s, .int .i64 cl] 66) = W := ⟨_, rfl⟩
    obtain ⟨gb, hgb⟩ : ∃ b, w1.heap.size = b := ⟨_, rfl⟩
    rw [hw2] at HT2 HB2 ⊢
    rw [hgb] at HT2 ⊢
    have hgm : gb ≠ mb := by omega
    have HX2 := Lib.hid (HX1.out.below HB2.out)
    have HPL := Lib.hid (wplan_ wx.heap.size wb mb A c L n h1 h8 N hN HOK.out [(t, s, cl)] (some ⟨gb, 0, none⟩) 1 w2 ⟨_, HWA.out.below HB2.out⟩ HT2.out (fun b o _ h => by cases h; exact hgm))
    have HBW2 := Lib.hid (HB1.out.trans (HB2.out.mono HB1.out.size))
    rw [HPB.out] at HPL
    have hxm : xb ≠ mb := by omega
    have hwm : w.heap.size ≤ mb := by omega
    clear hw2 hgb x0 x1 x2 xl
    refine HPL.out.mono ?_
    rintro e w3 ⟨rfl, hwa, hgr⟩
    obtain ⟨f3, hwa⟩ := hwa
    have HWA3 := Lib.hid hwa
    have HX3 := Lib.hid (HX2.out.grown hgr hxm)
    have HB3 : Hid (Below w.heap.size w w3) := HBW2.out.grown hgr HBW2.out.size (fun g h => by cases h; exact hwm)
    clear hwa hgr HPL
    cases lk with
    | false =>
      obtain rfl : cE = 94 := HE.out
      obtain rfl : cL = [] := HLL.out
      go_wp2_with fail
      go_ret2
      exact OutS.none 94 HB3.out
    | true =>
      obtain rfl : cE = 0 := HE.out
      have HL0 : Hid (cL = coversX n N (scpAt L s) t.toNat cl) := HLL.out
      have hlk := HLK.out
      unfold lookB at hlk
      rw [Bool.and_eq_true] at hlk
      obtain ⟨ht, hc⟩ := hlk
      have hci := seesX_in (List.contains_iff_mem.1 hc)
      obtain ⟨k, hkt, hks, hkx, hkl⟩ := turn_key HOK.out ht
      have HCV := Lib.hid (covers_ (fun _ => False) wx.heap.size wb mb A c L n h1 h8 N hN f3 k _ hkx hkl cl hci.1 hci.2 w3 HWA3.out (fun r h => h.elim))
      simp only at hkt hks
      rw [← hkt, ← hks, show k.1 / 4 = t.toNat by rw [hkt]; rfl] at HCV
      obtain ⟨V, hV⟩ : ∃ l, coversX n N (scpAt L s) t.toNat cl = l := ⟨_, rfl⟩
      simp only at HCV
      rw [hV] at HCV HL0
      obtain rfl : cL = V := HL0.out
      have x0 := HX3.out.c0
      have x1 := HX3.out.c1
      have x2 := HX3.out.c2
      have xl := HX3.out.lt
      simp only at x0 x1 x2
      clear ht hc hci hkt hks hkx hkl hV
      go_wp2_with fail
      refine HCV.out.mono ?_
      rintro e w4 ⟨v, f', rfl, hsv, -, hgr⟩
      obtain ⟨VA, vc, rfl, hvs, -⟩ := hsv
      have HVS := Lib.hid hvs
      have HB4 : Hid (Below w.heap.size w w4) := HB3.out.grown hgr HB3.out.size (fun g h => by cases h; exact hwm)
      clear hvs hgr x0 x1 x2 xl
      go_wp2_with fail
      go_ret2
      exact ⟨VA, vc, rfl, HVS.out, HB4.out⟩
  · have e : covE L n N (t, s, cl) = gW L n := by unfold covE; rw [if_neg (by simpa using hg)]
    have e2 : covL L n N (t, s, cl) = [] := by unfold covL; rw [if_neg (by rw [e]; exact hg)]
    rw [e, e2]
    obtain ⟨v, hv⟩ : ∃ v, gW L n = v := ⟨_, rfl⟩
    have HWT := Lib.hid (watching_e L A c n v _ hv (by rw [← hv]; exact hg) HL2.out HZ2.out hs)
    have hnz : (v != 0) = true := by rw [← hv]; simpa using hg
    rw [hv]
    clear hL hz hs e e2 hv hg
    go_enter Tryz.func40, Tryz.ntmps40
    go_wp2_with fail
    refine HWT.out.mono ?_
    rintro e w1 ⟨rfl, hb⟩
    have HB := Lib.hid (HBX.out.trans (hb.mono HBX.out.size))
    clear hb
    go_wp2_with fail
    go_ret2
    exact OutS.none v HB.out
end Go.Proofs.YtcclfhdglhbpcaaGreatDoor
