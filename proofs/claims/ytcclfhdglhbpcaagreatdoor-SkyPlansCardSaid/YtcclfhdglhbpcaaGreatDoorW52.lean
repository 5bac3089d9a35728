/-
  The walk of the specification's Plan.
-/
import Derived.Test.YtcclfhdglhbpcaaGreatDoorW51
import Derived.Test.YtcclfhdglhbpcaaGreatDoorW48
import Derived.Test.YtcclfhdglhbpcaaGreatDoorW25
namespace Go.Proofs.YtcclfhdglhbpcaaGreatDoor
open Go.RowKit Al

theorem own_some9 {w : World} {base : Nat} {e : TypeId} {sz : Nat} {A : Option Addr} {n c : Nat} {xs : List Value} (h : w.ownsRow base e sz (.slice A n c) n xs) (hn : 0 < n) : ∃ g, A = some ⟨g, 0, none⟩ := by
  rcases h.2 with ⟨h', h0⟩ | ⟨g, cap, cur, h', _⟩
  · simp only [Value.slice.injEq] at h'
    omega
  · simp only [Value.slice.injEq] at h'
    exact ⟨g, h'.1⟩
theorem take_same (n : Int) (N : Nat) (x : Scp) (t : Nat) (c : Int) (o : List Int) : (takeF false o (coversX n N x t c)).1 = (takeF true o (coversX n N x t c)).1 := by rw [take_got, take_got]
/-- What the specification's Plan keeps: marks, looks. -/
structure RpW (B0 lb N : Nat) (W0 : World) (M : List Bool) (PA : Option Addr) (pc : Nat) (pl : List V3) (wr : World) : Prop where
  lr : wr.ownsRow B0 4 1 (.slice (some ⟨lb, 0, none⟩) N N) N (bools M)
  pr : wr.ownsRow B0 66 3 (.slice PA pl.length pc) pl.length (zsC pl)
  pn : (Value.slice PA pl.length pc).ownBlock ≠ some lb
  bl : Below B0 W0 wr
  b0 : W0.heap.size = B0
section
variable {B0 lb N : Nat} {W0 : World} {M : List Bool} {PA : Option Addr} {pc : Nat} {pl : List V3} {wr w' : World}
theorem RpW.sz (h : RpW B0 lb N W0 M PA pc pl wr) : B0 ≤ wr.heap.size := by have := h.bl.size; have := h.b0; omega
theorem RpW.lb0 (h : RpW B0 lb N W0 M PA pc pl wr) : B0 ≤ lb ∧ lb < wr.heap.size := ⟨(own_lt h.lr rfl).1, (own_lt h.lr rfl).2⟩
theorem RpW.below (h : RpW B0 lb N W0 M PA pc pl wr) (hb : Below wr.heap.size wr w') : RpW B0 lb N W0 M PA pc pl w' := ⟨own_below h.lr (Nat.le_refl _) hb, own_below h.pr (Nat.le_refl _) hb, h.pn, h.bl.trans (hb.mono h.sz), h.b0⟩
theorem RpW.took (h : RpW B0 lb N W0 M PA pc pl wr) {M' : List Bool} (hg : wr.grownBy w' (some lb)) (hO : w'.ownsRow B0 4 1 (.slice (some ⟨lb, 0, none⟩) N N) N (bools M')) : RpW B0 lb N W0 M' PA pc pl w' :=
  ⟨hO, h.pr.kept hg (.inr fun e => h.pn e), h.pn, h.bl.grown hg h.sz (fun g e => by cases e; exact h.lb0.1), h.b0⟩
theorem RpW.other (h : RpW B0 lb N W0 M PA pc pl wr) {r : Nat} (hg : wr.grownBy w' (some r)) (h0 : B0 ≤ r) (h1 : r ≠ lb) (h2 : (Value.slice PA pl.length pc).ownBlock ≠ some r) : RpW B0 lb N W0 M PA pc pl w' :=
  ⟨h.lr.kept hg (.inr fun e => h1 (Option.some.inj e).symm), h.pr.kept hg (.inr fun e => h2 e), h.pn, h.bl.grown hg h.sz (fun g e => by cases e; exact h0), h.b0⟩
theorem RpW.append (h : RpW B0 lb N W0 M PA pc pl wr) {v : V3} {g cap : Nat} (hO : w'.ownsRow B0 66 3 (.slice (some ⟨g, 0, none⟩) (pl.length + 1) cap) (pl.length + 1) (zsC pl ++ v3C v)) (hg : wr.grownBy w' (Value.slice PA pl.length pc).ownBlock) (hat : (Value.slice PA pl.length pc).ownBlock = some g ∨ g = wr.heap.size) :
    RpW B0 lb N W0 M (some ⟨g, 0, none⟩) cap (pl ++ [v]) w' := by
  have hl := h.lb0
  refine ⟨h.lr.kept hg (.inr fun e => h.pn e.symm), ?_, fun e => ?_, h.bl.grown hg h.sz (fun g e => (own_lt h.pr e).1), h.b0⟩
  · rw [List.length_append]
    have e : zsC (pl ++ [v]) = zsC pl ++ v3C v := by unfold zsC; rw [List.flatMap_append]; simp
    rw [e]
    exact hO
  · have e2 : g = lb := Option.some.inj e
    subst e2
    rcases hat with h1 | h1
    · exact h.pn h1
    · omega
end
structure RpC where
  lb : Nat
  N : Nat
  lf : List Int
def RqRel (C : RpC) (w : World) (F : Nat → PSt) (m : Nat) (o g i : Value) (wr : World) : Prop :=
  ∃ (k : Nat) (M : List Bool) (PA : Option Addr) (pc : Nat), k ≤ m ∧ i = .int .i64 (k : Int) ∧ o = .slice PA (F k).pl.length pc ∧ g = .int .i64 (F k).g ∧ Hid ((F k).lf = mkL C.lf M ∧ M.length = C.N) ∧ Hid (RpW w.heap.size C.lb C.N w M PA pc (F k).pl wr)
def RbRel (C : RpC) (w : World) (M : List Bool) (PA : Option Addr) (pc : Nat) (pl : List V3) (bb : Nat) (l : List Int) (VA : Option Addr) (vc : Nat) (F : Nat → V3 × Int) (mo i : Value) (wr : World) : Prop :=
  ∃ k : Nat, k ≤ l.length ∧ i = .int .i64 (k : Int) ∧ mo = .int .i64 (F k).2 ∧ Hid (RpW w.heap.size C.lb C.N w M PA pc pl wr) ∧ Hid (Bx3 wr bb (F k).1) ∧ Hid (Sl wr wr.heap.size 1 VA l.length vc (ints l))
set_option maxRecDepth 100000 in
set_option maxHeartbeats 16000000 in
theorem rPlan_ok (L : List Scp) (hok : ScsOk L (m0L L)) (LA : Option Addr) (lc : Nat) (n : Int) (h1 : 1 ≤ n) (h8 : n ≤ 8) (N : Nat) (hN : (N : Int) = 6 * (n * n)) (ws sm : List Int) (A B : Option Addr) (c d : Nat) (w : World)
    (hL : Sl w w.heap.size 6 LA L.length lc (scsC L)) (hz : ∀ x ∈ L, Sl w w.heap.size 3 x.ZA x.zs.length x.zc (zsC x.zs)) (hs' : ∀ x ∈ L, x.nm.size ≤ maxLen) (hw : Sl w w.heap.size 1 A ws.length c (ints ws)) (hs : Sl w w.heap.size 1 B sm.length d (ints sm)) (hge : gE L n ws sm = 0) :
    Calls Tryz.prog 33 #[.slice LA L.length lc, .int .i64 n, .slice A ws.length c, .slice B sm.length d] w (PlanO (planF n N L ⟨lf0 ws sm, [], 0⟩ (m0L L)).pl (planF n N L ⟨lf0 ws sm, [], 0⟩ (m0L L)).g 0 w) := by
  obtain ⟨i0, hi, hz0, hz1, hz2⟩ := info_parts infoLook
  obtain ⟨j0, hj, hj0, hj1, hj2⟩ := info_parts infoBool
  have hwt := (gE_ok hge).2
  obtain ⟨q1, q2, q3⟩ := weighedB_yes hwt
  obtain ⟨hwN, hgo⟩ := lf0_ok h1 h8 hN hwt
  obtain ⟨k1, k2, k3⟩ := six_in h1 h8
  have hN384 : N ≤ 384 := by omega
  have hN0 : 0 < N := by omega
  have HGA := Lib.hid (rgaining_ L LA lc n N hN ws sm A B c d w hL hz hs' hw hs)
  rw [hge] at HGA
  have HC : Hid (∀ W, Calls Tryz.prog 54 #[.int .i64 n] W fun e w' => e = .returned (.int .i64 (N : Int)) ∧ W = w') := fun W => by rw [hN]; exact rcells_ n h1 h8 W
  have HL := Lib.hid (fun W (hW : Below w.heap.size w W) => (hL.below hW).more hW.size)
  have HZ := Lib.hid (fun W (hW : Below w.heap.size w W) => fun y hy => ((hz y hy).below hW).more hW.size)
  have HW := Lib.hid (fun W (hW : Below w.heap.size w W) => (hw.below hW).more hW.size)
  have HS := Lib.hid (fun W (hW : Below w.heap.size w W) => (hs.below hW).more hW.size)
  have HFA : Hid (∀ r, w.heap.size ≤ r → (∀ b o, 0 < ws.length → A = some ⟨b, o, none⟩ → b ≠ r) ∧ ∀ b o, 0 < sm.length → B = some ⟨b, o, none⟩ → b ≠ r) := fun r hr => ⟨sl_far hw hr, sl_far hs hr⟩
  have HOKS := Lib.hid hok
  have HLN : Hid ((lf0 ws sm).length = N) := hgo.ln
  have HLF : Hid (∀ x ∈ lf0 ws sm, 0 ≤ x ∧ x ≤ 1000) := hgo.lf
  have HNN := Lib.hid hN
  have HWB := Lib.hid q2
  have HSB : Hid (∀ x ∈ sm, 0 ≤ x) := fun x hx => (q3 x hx).1
  have HWN := Lib.hid hwN
  have hNi : (N : Int) ≤ 384 := by omega
  have hN0i : (0 : Int) ≤ (N : Int) := by omega
  have hl4 := hok.l4
  have hl1 := hok.l1
  have hm8 : m0L L ≤ 8 := by have h9 := (hok.ok _ (List.getElem_mem (show 0 < L.length by omega))).z8; rw [m0L_is (by omega)] at h9; exact h9
  obtain ⟨m, hm⟩ : ∃ m, m0L L = m := ⟨_, rfl⟩
  obtain ⟨sb, so, rfl, hsb, -, -, -, -, -, z5⟩ := hL.sc_at (k := 0) (by omega)
  rw [m0L_is (by omega), hm] at z5
  simp only [Nat.zero_mul, Nat.add_zero] at z5
  obtain ⟨zA0, hzA0⟩ : ∃ a, (L[0]'(by omega)).ZA = a := ⟨_, rfl⟩
  obtain ⟨zc0, hzc0⟩ : ∃ a, (L[0]'(by omega)).zc = a := ⟨_, rfl⟩
  rw [hzA0, hzc0] at z5
  have HZ5 := Lib.hid (fun W (hW : Below w.heap.size w W) => (hW.cell (p := ⟨sb, so + 5, none⟩) hsb).trans z5)
  have HSEE := Lib.hid (fun (si ti : Nat) (hsi : si < L.length) (hti : ti < (L[si]'hsi).zs.length) W (hW : Below w.heap.size w W) => rsees_ L (some ⟨sb, so, none⟩) lc n si ti W (HL.out W hW) (HZ.out W hW) h1 h8 hsi hti N hN)
  have HCOV := Lib.hid (fun (si ti : Nat) (hsi : si < L.length) (hti : ti < (L[si]'hsi).zs.length) (cl : Int) (a : 0 ≤ cl) (b : cl < (N : Int)) W (hW : Below w.heap.size w W) => rcovers_ L (some ⟨sb, so, none⟩) lc n cl si ti W (HL.out W hW) (HZ.out W hW) h1 h8 hsi hti N hN a b)
  have HZM : Hid (∀ si (hsi : si < L.length), (L[si]'hsi).zs.length = m) := fun si hsi => by rw [← hm]; exact (hok.ok _ (List.getElem_mem hsi)).zm
  have hl1' : (0 : Int) < (L.length : Int) := by omega
  have HSB0 := Lib.hid hsb
  obtain ⟨lf, hlf⟩ : ∃ lf, lf0 ws sm = lf := ⟨_, rfl⟩
  have HLE := Lib.hid hlf
  rw [hlf] at HLN HLF
  obtain ⟨st0, hst0⟩ : ∃ st : PSt, (⟨lf, [], 0⟩ : PSt) = st := ⟨_, rfl⟩
  have HSOK : Hid (st0.ok N 0) := by
    show PSt.ok N 0 st0
    rw [← hst0]
    exact ⟨HLF.out, HLN.out, Int.le_refl _, by simp, by simp⟩
  have HS0 := Lib.hid hst0
  rw [hlf, hm, hst0]
  rw [hm] at hm8
  clear hL hz hs' hw hs hge hwt q1 q2 q3 hwN hgo hN k1 k2 k3 hok hm z5 hzA0 hzc0 hsb hlf hst0
  go_enter Tryz.func33, Tryz.ntmps33
  go_wp2_with fail
  refine HGA.out.mono ?_
  rintro e w0 ⟨rfl, hb⟩
  have HB0 := Lib.hid hb
  clear hb
  go_wp2_with (first | (at_make; refine wpList_make_full _ rfl _ _ 121 rfl w.heap.size 4 j0 (.bool false) 1 Tryz.underlying121 hj hj0 hj1 _ _ _ _ N rfl rfl (by omega) (by omega) (by rw [hj2]; omega) (by unfold maxLen; omega) HB0.out.size ?_; intro w1 hown1 hg1) | (go_at_call 54; refine (HC.out _).mono ?_; rintro e w' ⟨rfl, rfl⟩))
  rw [bools_rep] at hown1
  have HP1 : Hid (RpW w.heap.size w0.heap.size N w (List.replicate N false) none 0 [] w1) := ⟨hown1, World.ownsRow_nil _ _ _ _, (fun e => by cases e), HB0.out.grown hg1 HB0.out.size (fun g h => by cases h), rfl⟩
  clear hown1 hg1
  obtain ⟨lb, hlb⟩ : ∃ b, w0.heap.size = b := ⟨_, rfl⟩
  rw [hlb] at HP1
  obtain ⟨F, hF⟩ : ∃ F : Nat → PSt, (fun k => planF n N L st0 k) = F := ⟨_, rfl⟩
  have HF : Hid (∀ k, F k = planF n N L st0 k) := fun k => by rw [← hF]
  have HFS : Hid (∀ k, F (k + 1) = rowF n N L (F k) k L.length) := fun k => by rw [HF.out, HF.out, planF_succ]
  have HFO : Hid (∀ k, (F k).ok N (k * L.length)) := fun k => by rw [HF.out]; exact planF_ok hN384 HSOK.out k
  have HFE : Hid (planF n N L st0 m = F m) := by show _ = _; rw [HF.out]
  have hf0 : F 0 = ⟨lf, [], 0⟩ := by rw [HF.out, HS0.out]; rfl
  have HF0 := Lib.hid hf0
  clear hF hf0
  go_wp2_with fail
  rw [hlb]
  clear hlb
  go_loopw [13, 14, 15] (fun o g i wr => RqRel ⟨lb, N, lf⟩ w F m o g i wr) (fun _ _ i _ => m - (intOf i).toNat)
  case atStart =>
    refine ⟨0, List.replicate N false, none, 0, Nat.zero_le _, rfl, by rw [HF0.out]; rfl, by rw [HF0.out], Lib.hid ⟨?_, ?_⟩, Lib.hid ?_⟩
    · rw [HF0.out, mkL_none]
    · exact List.length_replicate
    · rw [HF0.out]; exact HP1.out
  case round =>
    obtain ⟨t, M, PA, pc, ht, rfl, rfl, rfl, HM, HP⟩ := hrel
    have HP : Hid (RpW w.heap.size lb N w M PA pc (F t).pl wr) := HP
    have HM : Hid ((F t).lf = mkL lf M ∧ M.length = N) := HM
    have z5 := HZ5.out _ HP.out.bl
    have hsw : sb < wr.heap.size := Nat.lt_of_lt_of_le HSB0.out HP.out.bl.size
    by_cases htm : t < m
    · have htm' : (t : Int) < (m : Int) := by omega
      obtain ⟨st, hst⟩ : ∃ st, F t = st := ⟨_, rfl⟩
      have HST := Lib.hid hst
      rw [hst] at HP HM ⊢
      clear hst
      obtain ⟨G, hG⟩ : ∃ G : Nat → PSt, (fun k => rowF n N L st t k) = G := ⟨_, rfl⟩
      have HGE : Hid (∀ k, G k = rowF n N L st t k) := fun k => by rw [← hG]
      have hG0 : st = G 0 := by rw [← hG]; rfl
      rw [hG0] at HP HM ⊢
      clear hG hG0
      go_wp2_with fail
      go_loopw [13, 14, 16] (fun o g i wr => RqRel ⟨lb, N, lf⟩ w G L.length o g i wr) (fun _ _ i _ => L.length - (intOf i).toNat)
      case atStart => exact ⟨0, M, PA, pc, Nat.zero_le _, rfl, rfl, rfl, HM, HP⟩
      case round =>
        clear HM HP z5 hsw
        obtain ⟨s, M, PA, pc, hs, rfl, rfl, rfl, HM, HP⟩ := hrel
        have HP : Hid (RpW w.heap.size lb N w M PA pc (G s).pl wr) := HP
        have HM : Hid ((G s).lf = mkL lf M ∧ M.length = N) := HM
        by_cases hsm : s < L.length
        · have hsm' : (s : Int) < (L.length : Int) := by omega
          have hti : t < (L[s]'hsm).zs.length := by rw [HZM.out s hsm]; exact htm
          have HSE := Lib.hid (HSEE.out s t hsm hti)
          have HCV := Lib.hid (HCOV.out s t hsm hti)
          obtain ⟨x, hx⟩ : ∃ x, L[s] = x := ⟨_, rfl⟩
          have hxd : L.getD s default = x := by rw [List.getD_eq_getElem?_getD, List.getElem?_eq_getElem hsm, hx]; rfl
          rw [hx] at HSE HCV
          obtain ⟨st1, hst1⟩ : ∃ st1, G s = st1 := ⟨_, rfl⟩
          have HS1 : Hid (G (s + 1) = stepF n N L t st1 s) := by show _ = _; rw [HGE.out, rowF_succ, ← HGE.out, hst1]
          have HOK1 : Hid (st1.ok N 32) := by
            show PSt.ok N 32 st1
            have h := rowF_ok hN384 (n := n) (L := L) (t := t) (HFO.out t) s
            rw [HST.out, ← HGE.out, hst1] at h
            have h32 : t * L.length + s ≤ 32 := by
              have h1 : t * L.length ≤ 7 * L.length := Nat.mul_le_mul_right _ (by omega)
              omega
            exact ⟨h.lf, h.ln, h.g0, by have := h.g1; omega, by have := h.pl; omega⟩
          have HXD := Lib.hid hxd
          rw [hst1] at HP HM ⊢
          have hlbw := HP.out.lb0
          have hszw := HP.out.sz
          have HP1 := Lib.hid (HP.out.below ((Below.refl _ _).alloc (Nat.le_refl _) (.cells #[.int .i64 0, .int .i64 0, .int .i64 0] 66)))
          have HBX1 : Hid (Bx3 (wr.alloc (.cells #[.int .i64 0, .int .i64 0, .int .i64 0] 66)) wr.heap.size (0, 0, 0)) := heap_alloc_new wr _
          have HPB : Hid ((Value.slice PA st1.pl.length pc).ownBlock ≠ some wr.heap.size) := fun e => by have := (own_lt HP.out.pr e).2; omega
          obtain ⟨bb, hbb⟩ : ∃ b, wr.heap.size = b := ⟨_, rfl⟩
          have hbl : bb ≠ lb := by omega
          have hwbb : w.heap.size ≤ bb := by omega
          have hbbs : bb < (wr.alloc (.cells #[.int .i64 0, .int .i64 0, .int .i64 0] 66)).heap.size := by simp; omega
          clear hx hxd hst1 hti
          go_wp2_with fail
          refine (HSE.out _ HP1.out.bl).mono ?_
          rintro e w5 ⟨VA, vc, rfl, hO5, hb5⟩
          have HP5 := Lib.hid (HP1.out.below hb5)
          have HBX5 := Lib.hid (HBX1.out.below hb5)
          have hvn : ∀ b o, 0 < (seesX n N x t).length → VA = some ⟨b, o, none⟩ → b ≠ bb := fun b o h0 e => by
            obtain ⟨g, hg⟩ := own_some9 hO5 h0
            have h9 := (own_lt hO5 (g := g) (by rw [hg]; rfl)).1
            rw [hg] at e
            cases e
            omega
          have hsl := Sl.of_own hO5
          rw [hbb] at HBX5 HPB
          obtain ⟨l, hl⟩ : ∃ l, seesX n N x t = l := ⟨_, rfl⟩
          have HIN : Hid (∀ c ∈ l, 0 ≤ c ∧ c < (N : Int)) := fun c hc => seesX_in (by rw [hl]; exact hc)
          have HLS := Lib.hid hl
          have hvc : (seesX n N x t).length ≤ vc := hsl.cap
          have hll : l.length ≤ 384 := by
            have h1 : l.length ≤ N := by
              rw [← hl]
              unfold seesX pickL
              rw [List.length_map]
              exact Nat.le_trans (List.length_filter_le _ _) (by rw [cellsL_len]; exact Nat.le_refl _)
            omega
          rw [hl] at hvc hsl hvn ⊢
          have HSV5 := Lib.hid hsl
          have HVN := Lib.hid hvn
          clear hl hsl hO5 hb5 HP HP1 HBX1 hvn hbbs
          clear hbb
          obtain ⟨BF, hBF⟩ : ∃ BF : Nat → V3 × Int, (fun k => bestF n N x t s st1.lf ((0, 0, 0), 0) (l.take k)) = BF := ⟨_, rfl⟩
          have HBF : Hid (∀ k, BF k = bestF n N x t s st1.lf ((0, 0, 0), 0) (l.take k)) := fun k => by rw [← hBF]
          have hBF0 : BF 0 = ((0, 0, 0), 0) := by rw [← hBF]; rfl
          have hB1 : (0 : Int) = (BF 0).2 := by rw [hBF0]
          rw [show ((0, 0, 0) : V3) = (BF 0).1 by rw [hBF0]] at HBX5
          have HB10 := Lib.hid hB1
          clear hBF hBF0 hB1
          go_wp2_with fail
          go_loopw [18, 20] (fun mo i wr => RbRel ⟨lb, N, lf⟩ w M PA pc st1.pl bb l VA vc BF mo i wr) (fun _ i _ => l.length - (intOf i).toNat)
          case atStart => exact ⟨0, Nat.zero_le _, rfl, by rw [← HB10.out], HP5, HBX5, HSV5⟩
          case round =>
            obtain ⟨k, hk, rfl, rfl, HP0, HBX, HSV⟩ := hrel
            have HP : Hid (RpW w.heap.size lb N w M PA pc st1.pl wr) := HP0
            clear HP0
            have hbw := HBX.out.lt
            have hszr := HP.out.sz
            by_cases hlt : k < l.length
            · obtain ⟨tb, tof, rfl, htb, c0⟩ := HSV.out.int_at hlt hlt
              obtain ⟨cv, hcv⟩ : ∃ c, l[k] = c := ⟨_, rfl⟩
              have hin := HIN.out cv (by rw [← hcv]; exact List.getElem_mem hlt)
              have HBS : Hid (BF (k + 1) = if (BF k).2 < (takeF true (mkL lf M) (coversX n N x t cv)).1 then (((t : Int), (s : Int), cv), (takeF true (mkL lf M) (coversX n N x t cv)).1) else BF k) := by
                show _ = _
                rw [HBF.out, HBF.out, List.take_succ_eq_append_getElem hlt, bestF_snoc, hcv, take_same, HM.out.1]
              rw [hcv] at c0
              have hlt' : (k : Int) < (l.length : Int) := by omega
              have HPX := Lib.hid (HP.out.below ((Below.refl _ _).alloc (Nat.le_refl _) (.cells #[.int .i64 (t : Int), .int .i64 (s : Int), .int .i64 cv] 66)))
              have HBXX := Lib.hid (HBX.out.below ((Below.refl _ _).alloc (Nat.le_refl _) (.cells #[.int .i64 (t : Int), .int .i64 (s : Int), .int .i64 cv] 66)))
              have HSVX := Lib.hid (HSV.out.bT ((Below.refl _ _).alloc (Nat.le_refl _) (.cells #[.int .i64 (t : Int), .int .i64 (s : Int), .int .i64 cv] 66)))
              have HXB : Hid (Bx3 (wr.alloc (.cells #[.int .i64 (t : Int), .int .i64 (s : Int), .int .i64 cv] 66)) wr.heap.size ((t : Int), (s : Int), cv)) := heap_alloc_new wr _
              obtain ⟨xb, hxb⟩ : ∃ b, wr.heap.size = b := ⟨_, rfl⟩
              have hlb0 := HP.out.lb0
              have hxbb : xb ≠ bb := by omega
              rw [hxb] at HXB
              obtain ⟨cl, hcl⟩ : ∃ cl, coversX n N x t cv = cl := ⟨_, rfl⟩
              have HCI : Hid (∀ y ∈ cl, 0 ≤ y ∧ y < (N : Int)) := fun y hy => coversX_in (by rw [hcl]; exact hy)
              have hcll : cl.length ≤ 384 := by have := coversX_len n N x t cv; rw [hcl] at this; omega
              rw [hcl] at HBS
              have HCC := Lib.hid (HCV.out cv hin.1 hin.2 _ HPX.out.bl)
              rw [hcl] at HCC
              clear hcv hcl
              go_wp2_with fail
              refine HCC.out.mono ?_
              rintro e w6 ⟨D, dc, rfl, hO6, hb6⟩
              have HP6 := Lib.hid (HPX.out.below hb6)
              have HBX6 := Lib.hid (HBXX.out.below hb6)
              have HSV6 := Lib.hid (HSVX.out.bT hb6)
              have HXB6 := Lib.hid (HXB.out.below hb6)
              have HO6 := Lib.hid hO6
              have HOB : Hid (Calls Tryz.prog 81 #[.slice (some ⟨lb, 0, none⟩) N N] w6 (ObT M w6)) := by
                have h := OwnBools_ M lb N w.heap.size w6 (by rw [HM.out.2]; exact HP6.out.lr) (by rw [HM.out.2]; exact hN0) (by rw [HM.out.2]; exact hN384)
                rw [HM.out.2] at h
                exact h
              clear hO6 hb6 c0
              go_wp2_with fail
              refine HOB.out.mono ?_
              rintro e w7 ⟨cg, cc, rfl, hO7, hb7⟩
              have HP7 := Lib.hid (HP6.out.below hb7)
              have HBX7 := Lib.hid (HBX6.out.below hb7)
              have HSV7 := Lib.hid (HSV6.out.bT hb7)
              have HXB7 := Lib.hid (HXB6.out.below hb7)
              have hcg := own_lt hO7 (g := cg) rfl
              have hz67 := HP6.out.sz
              rw [HM.out.2] at hO7 ⊢
              have HOM : Hid (w7.ownsRow w6.heap.size 4 1 (.slice (some ⟨cg, 0, none⟩) lf.length cc) lf.length (bools M)) := by
                show World.ownsRow _ _ _ _ _ _ _
                rw [HLN.out]
                exact hO7
              have HO67 := Lib.hid (own_below HO6.out (Nat.le_refl _) hb7)
              have HFR := Lib.hid (rfresh_ ws sm cl lf HLE.out.symm M cg cc w6.heap.size A B D c d dc w7 HOM.out (HW.out _ HP7.out.bl) (HFA.out cg (by omega)).1 (HS.out _ HP7.out.bl) (HFA.out cg (by omega)).2 (Sl.of_own HO67.out) (fun b o h0 e => by
                obtain ⟨g, hg⟩ := own_some9 HO6.out h0
                have h9 := (own_lt HO6.out (g := g) (by rw [hg]; rfl)).2
                rw [hg] at e
                cases e
                omega) HWB.out HSB.out (fun y hy => by have := HCI.out y hy; rw [HWN.out]; exact this) hcll)
              rw [HLN.out] at HFR
              obtain ⟨K, hK⟩ : ∃ K, (takeF true (mkL lf M) cl).1 = K := ⟨_, rfl⟩
              have HK := Lib.hid hK
              rw [hK] at HBS
              have HG7 : Hid (Below w6.heap.size w6 w7) := hb7
              have hsz6 := hcg.1
              clear hO7 hb7
              go_wp2_with fail
              refine HFR.out.mono ?_
              rintro e w8 ⟨rfl, hO8, hg8⟩
              have hb8 : Below w6.heap.size w6 w8 := HG7.out.grown hg8 HG7.out.size (fun g h => by cases h; exact hsz6)
              have HP8 := Lib.hid (HP6.out.below hb8)
              have HBX8 := Lib.hid (HBX6.out.below hb8)
              have HSV8 := Lib.hid (HSV6.out.bT hb8)
              have HXB8 := HXB6.out.below hb8
              rw [HK.out]
              have y0 := HXB8.c0
              have y1 := HXB8.c1
              have y2 := HXB8.c2
              have yl := HXB8.lt
              have z0 := HBX8.out.c0
              have z1 := HBX8.out.c1
              have z2 := HBX8.out.c2
              have u0 := HBX8.out.f 0
              have u1 := HBX8.out.f 1
              have u2 := HBX8.out.f 2
              have zl := HBX8.out.lt
              clear hO8 hg8 hb8 hK HXB8 hxb HFR HOM HO67
              by_cases hgt : (BF k).2 < K
              · have HBN : Hid (BF (k + 1) = (((t : Int), (s : Int), cv), K)) := by show _ = _; rw [HBS.out, if_pos hgt]
                have HP9 := Lib.hid (HP8.out.other (grown_set3 (W := w8) (bb := bb) (a := .int .i64 (t : Int)) (b := .int .i64 (s : Int)) (c := .int .i64 cv)) hwbb hbl HPB.out)
                have HBX9 := Lib.hid (HBX8.out.set (t : Int) (s : Int) cv)
                have HSV9 := Lib.hid (HSV8.out.kg (grown_set3 (W := w8) (bb := bb) (a := .int .i64 (t : Int)) (b := .int .i64 (s : Int)) (c := .int .i64 cv)) HVN.out)
                go_wp2_with fail
                go_roundw
                case rel => (first | exact ⟨k + 1, by omega, by go_num, by rw [HBN.out], HP9, by rw [HBN.out]; exact HBX9, HSV9⟩ | ((repeat apply Exists.intro); refine ⟨⟨k + 1, by omega, by go_num, by rw [HBN.out], HP9, by rw [HBN.out]; exact HBX9, HSV9⟩, ?_⟩; (repeat refine ⟨rfl, ?_⟩); exact rfl))
                case measure => simp [intOf]; omega
              · have HBN : Hid (BF (k + 1) = BF k) := by show _ = _; rw [HBS.out, if_neg hgt]
                go_wp2_with fail
                go_roundw
                case rel => (first | exact ⟨k + 1, by omega, by go_num, by rw [HBN.out], HP8, by rw [HBN.out]; exact HBX8, HSV8⟩ | ((repeat apply Exists.intro); refine ⟨⟨k + 1, by omega, by go_num, by rw [HBN.out], HP8, by rw [HBN.out]; exact HBX8, HSV8⟩, ?_⟩; (repeat refine ⟨rfl, ?_⟩); exact rfl))
                case measure => simp [intOf]; omega
            · obtain rfl : k = l.length := by omega
              have HS2 : Hid (G (s + 1) = if 0 < (BF l.length).2 then ⟨(takeF true st1.lf (coversX n N x t (BF l.length).1.2.2)).2, st1.pl ++ [(BF l.length).1], st1.g + (takeF true st1.lf (coversX n N x t (BF l.length).1.2.2)).1⟩ else st1) := by
                show _ = _
                rw [HS1.out, HBF.out, List.take_length]
                unfold stepF
                rw [HXD.out, HLS.out]
              have HIB : Hid (0 ≤ (BF l.length).2 ∧ (0 < (BF l.length).2 → ∃ c ∈ l, BF l.length = (((t : Int), (s : Int), c), (takeF false st1.lf (coversX n N x t c)).1))) := by
                show _ ∧ _
                rw [HBF.out, List.take_length]
                exact bestF_in n N x t s st1.lf l
              by_cases hpos : 0 < (BF l.length).2
              · obtain ⟨cb, hcb, he⟩ := HIB.out.2 hpos
                have HN : Hid (G (s + 1) = ⟨(takeF true st1.lf (coversX n N x t cb)).2, st1.pl ++ [((t : Int), (s : Int), cb)], st1.g + (takeF true st1.lf (coversX n N x t cb)).1⟩) := by
                  show _ = _
                  rw [HS2.out, if_pos hpos, he]
                have hin := HIN.out cb hcb
                have h1 : (BF l.length).1 = ((t : Int), (s : Int), cb) := by rw [he]
                rw [h1] at HBX
                have HPX := Lib.hid (HP.out.below ((Below.refl _ _).alloc (Nat.le_refl _) (.cells #[.int .i64 (t : Int), .int .i64 (s : Int), .int .i64 cb] 66)))
                have HBXX := Lib.hid (HBX.out.below ((Below.refl _ _).alloc (Nat.le_refl _) (.cells #[.int .i64 (t : Int), .int .i64 (s : Int), .int .i64 cb] 66)))
                have z0 := HBX.out.c0
                have z1 := HBX.out.c1
                have z2 := HBX.out.c2
                have hp32 := HOK1.out.pl
                have hg0 := HOK1.out.g0
                have hg1 := HOK1.out.g1
                obtain ⟨cl, hcl⟩ : ∃ cl, coversX n N x t cb = cl := ⟨_, rfl⟩
                have HCI : Hid (∀ y ∈ cl, 0 ≤ y ∧ y < (N : Int)) := fun y hy => coversX_in (by rw [hcl]; exact hy)
                have hcll : cl.length ≤ 384 := by have := coversX_len n N x t cb; rw [hcl] at this; omega
                have HCC := Lib.hid (fun W hW => HCV.out cb hin.1 hin.2 W hW)
                simp only [hcl] at HCC HN
                obtain ⟨k1, k2, k3⟩ := takeF_in true st1.lf cl HOK1.out.lf
                have hlm := HM.out.1
                rw [hlm] at HN k2 k3
                obtain ⟨K, hK⟩ : ∃ K, (takeF true (mkL lf M) cl).1 = K := ⟨_, rfl⟩
                have HK := Lib.hid hK
                rw [hK] at HN k2 k3
                have hM' : (takeF true (mkL lf M) cl).2 = mkL lf (markF M cl) := take_mark (by rw [HM.out.2, HLN.out]) cl
                rw [hM'] at HN
                have HM2 : Hid ((markF M cl).length = N) := by show _ = _; rw [markF_len]; exact HM.out.2
                clear he h1 hcb hcl hK k1 hlm hM'
                go_wp2_with (at_builtin; go_must (refine wpList_append_lies _ rfl _ _ 58 rfl w.heap.size 66 i0 (.agg #[.int .i64 0, .int .i64 0, .int .i64 0]) 3 24 Tryz.underlying58 hi hz0 hz1 hz2 rfl (by decide) (.slice PA st1.pl.length pc) st1.pl.length _ rfl HPX.out.pr _ 1 1 (v3C ((t : Int), (s : Int), cb)) rfl rfl (World.news_of_block (heap_alloc_new wr _)) (v3C_one _) (by decide) (by unfold maxLen; omega) (by omega) (by simp; omega) _ rfl ?_); intro g cap w6 hown6 hg6 hat6 hlt6; have HBX6 : Hid (Bx3 w6 bb ((t : Int), (s : Int), cb)) := (hg6.block bb HBXX.out.lt (fun e => HPB.out e.symm)).trans HBXX.out; have HP6 := Lib.hid (HPX.out.append hown6 hg6 hat6); have y0 := HBX6.out.c0; have y1 := HBX6.out.c1; have y2 := HBX6.out.c2; clear hown6 hg6 hat6 z0 z1 z2)
                refine (HCC.out _ HP6.out.bl).mono ?_
                rintro e w7 ⟨D, dc, rfl, hO7, hb7⟩
                have HP7 := Lib.hid (HP6.out.below hb7)
                have hlb7 := HP6.out.lb0
                have hlr : w7.ownsRow w.heap.size 4 1 (.slice (some ⟨lb, 0, none⟩) lf.length N) lf.length (bools M) := by
                  rw [HLN.out]
                  exact HP7.out.lr
                have HFR := Lib.hid (rfresh_ ws sm cl lf HLE.out.symm M lb N w.heap.size A B D c d dc w7 hlr (HW.out _ HP7.out.bl) (HFA.out lb hlb7.1).1 (HS.out _ HP7.out.bl) (HFA.out lb hlb7.1).2 (Sl.of_own hO7) (fun b o h0 e => by
                  obtain ⟨g, hg⟩ := own_some9 hO7 h0
                  have h9 := (own_lt hO7 (g := g) (by rw [hg]; rfl)).1
                  rw [hg] at e
                  cases e
                  omega) HWB.out HSB.out (fun y hy => by have := HCI.out y hy; rw [HWN.out]; exact this) hcll)
                rw [HLN.out] at HFR
                clear hO7 hb7 hlr y0 y1 y2
                go_wp2_with fail
                refine HFR.out.mono ?_
                rintro e w8 ⟨rfl, hO8, hg8⟩
                rw [HLN.out] at hO8
                have HP8 := Lib.hid (HP7.out.took hg8 hO8)
                rw [HK.out]
                clear hO8 hg8
                go_wp2_with fail
                go_roundw
                case rel =>
                  refine ⟨s + 1, markF M cl, some ⟨g, 0, none⟩, cap, by omega, ?_, ?_, ?_, ?_, ?_⟩
                  · go_num
                  · rw [HN.out, List.length_append]; rfl
                  · rw [HN.out]
                  · rw [HN.out]; exact Lib.hid ⟨rfl, HM2.out⟩
                  · rw [HN.out]; exact HP8
                case measure => simp [intOf]; omega
              · have HN : Hid (G (s + 1) = st1) := by show _ = _; rw [HS2.out, if_neg hpos]
                go_wp2_with fail
                go_roundw
                case rel => (first | exact ⟨s + 1, M, PA, pc, by omega, by go_num, by rw [HN.out], by rw [HN.out], by rw [HN.out]; exact HM, by rw [HN.out]; exact HP⟩ | ((repeat apply Exists.intro); refine ⟨⟨s + 1, M, PA, pc, by omega, by go_num, by rw [HN.out], by rw [HN.out], by rw [HN.out]; exact HM, by rw [HN.out]; exact HP⟩, ?_⟩; (repeat refine ⟨rfl, ?_⟩); exact rfl))
                case measure => simp [intOf]; omega
        · obtain rfl : s = L.length := by omega
          have HFG : Hid (F (t + 1) = G L.length) := by show _ = _; rw [HFS.out, HST.out, ← HGE.out]
          go_wp2_with fail
          go_roundw
          case rel => (first | exact ⟨t + 1, M, PA, pc, by omega, by go_num, by rw [HFG.out], by rw [HFG.out], by rw [HFG.out]; exact HM, by rw [HFG.out]; exact HP⟩ | ((repeat apply Exists.intro); refine ⟨⟨t + 1, M, PA, pc, by omega, by go_num, by rw [HFG.out], by rw [HFG.out], by rw [HFG.out]; exact HM, by rw [HFG.out]; exact HP⟩, ?_⟩; (repeat refine ⟨rfl, ?_⟩); exact rfl))
          case measure => simp [intOf]; omega
    · obtain rfl : t = m := by omega
      go_wp2_with fail
      go_ret3
      rw [HFE.out]
      exact ⟨PA, pc, rfl, Sl.of_own HP.out.pr, HP.out.bl⟩
end Go.Proofs.YtcclfhdglhbpcaaGreatDoor

/-
  The specification's Plan, for all inputs; the walk of the law SkyPlans.
-/
namespace Go.Proofs.YtcclfhdglhbpcaaGreatDoor
open Go.RowKit Al

set_option maxRecDepth 100000 in
set_option maxHeartbeats 4000000 in
theorem rPlan_ (L : List Scp) (LA : Option Addr) (lc : Nat) (n : Int) (N : Nat) (hN : (N : Int) = 6 * (n * n)) (ws sm : List Int) (A B : Option Addr) (c d : Nat) (w : World)
    (hL : Sl w w.heap.size 6 LA L.length lc (scsC L)) (hz : ∀ x ∈ L, Sl w w.heap.size 3 x.ZA x.zs.length x.zc (zsC x.zs)) (hs' : ∀ x ∈ L, x.nm.size ≤ maxLen) (hw : Sl w w.heap.size 1 A ws.length c (ints ws)) (hs : Sl w w.heap.size 1 B sm.length d (ints sm)) :
    Calls Tryz.prog 33 #[.slice LA L.length lc, .int .i64 n, .slice A ws.length c, .slice B sm.length d] w (PlanO (planP L n N ws sm).pl (planP L n N ws sm).g (gE L n ws sm) w) := by
  by_cases hg : gE L n ws sm = 0
  · obtain ⟨hgw, hwt⟩ := gE_ok hg
    obtain ⟨hb, h1, h8⟩ := gW_ok hgw
    have e1 : planP L n N ws sm = planF n N L ⟨lf0 ws sm, [], 0⟩ (m0L L) := by unfold planP; rw [if_pos hg]
    have h := rPlan_ok L (scsB_ok hb hs') LA lc n h1 h8 N hN ws sm A B c d w hL hz hs' hw hs hg
    rw [e1, hg]
    exact h
  · have HGA := Lib.hid (rgaining_ L LA lc n N hN ws sm A B c d w hL hz hs' hw hs)
    have e1 : planP L n N ws sm = ⟨[], [], 0⟩ := by unfold planP; rw [if_neg hg]
    rw [e1]
    obtain ⟨v, hv⟩ : ∃ v, gE L n ws sm = v := ⟨_, rfl⟩
    rw [hv] at HGA hg ⊢
    have hnz : (v != 0) = true := by simpa using hg
    clear hL hz hs' hw hs hv e1 hN
    go_enter Tryz.func33, Tryz.ntmps33
    go_wp2_with fail
    refine HGA.out.mono ?_
    rintro e w1 ⟨rfl, hb⟩
    have HB1 := Lib.hid hb
    clear hb
    go_wp2_with fail
    go_ret3
    exact PlanO.none v HB1.out
theorem sqn8 (n : Int) : 0 ≤ n * n := by
  rcases Int.le_total 0 n with h | h
  · exact Int.mul_nonneg h h
  · exact Int.mul_nonneg_of_nonpos_of_nonpos h h
/-- A map in a box. -/
structure MpP (W : World) (b : Nat) (n : Int) (s t : Value) : Prop where
  hp : W.heap[b]? = some (.cells #[.int .i64 n, s, t] 57 (0, 0))
section
variable {W W' : World} {b : Nat} {n : Int} {s t : Value}
theorem MpP.lt (h : MpP W b n s t) : b < W.heap.size := (Array.getElem?_eq_some_iff.1 h.hp).1
theorem MpP.below (h : MpP W b n s t) (g : Below W.heap.size W W') : MpP W' b n s t := ⟨(g.block b h.lt).trans h.hp⟩
theorem MpP.all (h : MpP W b n s t) : W.cell? ⟨b, 0, none⟩ = some (.int .i64 n) ∧ W.cell? ⟨b, 1, none⟩ = some s ∧ W.cell? ⟨b, 2, none⟩ = some t := by
  have e := h.hp
  refine ⟨?_, ?_, ?_⟩ <;> simp [World.cell?, e]
end
set_option maxRecDepth 100000 in
set_option maxHeartbeats 8000000 in
theorem skyPlans_ (L : List Scp) (LA : Option Addr) (lc : Nat) (n : Int) (ws sm : List Int) (A B : Option Addr) (c d : Nat) (p : List V3) (PA : Option Addr) (pc : Nat) (w : World) (hM : MxL w)
    (hL : Sl w w.heap.size 6 LA L.length lc (scsC L)) (hz : ∀ x ∈ L, Sl w w.heap.size 3 x.ZA x.zs.length x.zc (zsC x.zs)) (hs' : ∀ x ∈ L, x.nm.size ≤ maxLen) (hw : Sl w w.heap.size 1 A ws.length c (ints ws)) (hs : Sl w w.heap.size 1 B sm.length d (ints sm)) (hp : Sl w w.heap.size 3 PA p.length pc (zsC p)) :
    Calls Tryz.prog 8 #[.slice LA L.length lc, .agg #[.int .i64 n, .slice A ws.length c, .slice B sm.length d], .slice PA p.length pc] w fun e w' => e = .returned (.bool true) ∧ Below w.heap.size w w' := by
  have HM := Lib.hid hM
  obtain ⟨N, hN⟩ : ∃ N : Nat, (N : Int) = 6 * (n * n) := ⟨(6 * (n * n)).toNat, by have := sqn8 n; omega⟩
  have HP1 := Lib.hid (fun W (hW : Below w.heap.size w W) => Plan_ L LA lc n N hN ws sm A B c d W ((hL.below hW).more hW.size) (fun y hy => ((hz y hy).below hW).more hW.size) hs' ((hw.below hW).more hW.size) ((hs.below hW).more hW.size))
  have HP2 := Lib.hid (fun W (hW : Below w.heap.size w W) => rPlan_ L LA lc n N hN ws sm A B c d W ((hL.below hW).more hW.size) (fun y hy => ((hz y hy).below hW).more hW.size) hs' ((hw.below hW).more hW.size) ((hs.below hW).more hW.size))
  have HG1 := Lib.hid (fun W (hW : Below w.heap.size w W) => Gain_ L LA lc n N hN ws sm A B c d p PA pc W ((hL.below hW).more hW.size) (fun y hy => ((hz y hy).below hW).more hW.size) hs' ((hw.below hW).more hW.size) ((hs.below hW).more hW.size) ((hp.below hW).more hW.size))
  have HG2 := Lib.hid (fun W (hW : Below w.heap.size w W) => rGain_ L LA lc n N hN ws sm A B c d p PA pc W ((hL.below hW).more hW.size) (fun y hy => ((hz y hy).below hW).more hW.size) hs' ((hw.below hW).more hW.size) ((hs.below hW).more hW.size) ((hp.below hW).more hW.size))
  have HX : Hid (MpP (w.alloc (.cells #[.int .i64 n, .slice A ws.length c, .slice B sm.length d] 57)) w.heap.size n (.slice A ws.length c) (.slice B sm.length d)) := ⟨heap_alloc_new w _⟩
  have HBW : Hid (Below w.heap.size w (w.alloc (.cells #[.int .i64 n, .slice A ws.length c, .slice B sm.length d] 57))) := (Below.refl _ _).alloc (Nat.le_refl _) _
  obtain ⟨gv, hgv⟩ : ∃ v, gainV L n N ws sm p = v := ⟨_, rfl⟩
  obtain ⟨ge, hge⟩ : ∃ v, gainE L n N ws sm p = v := ⟨_, rfl⟩
  obtain ⟨pe, hpe⟩ : ∃ v, gE L n ws sm = v := ⟨_, rfl⟩
  obtain ⟨q, hq⟩ : ∃ q, (planP L n N ws sm).pl = q := ⟨_, rfl⟩
  obtain ⟨g, hg⟩ : ∃ q, (planP L n N ws sm).g = q := ⟨_, rfl⟩
  rw [hgv, hge] at HG1 HG2
  rw [hq, hg, hpe] at HP1 HP2
  clear hM hL hz hs' hw hs hp hgv hge hpe hq hg hN
  go_enter Tryz.func8, Tryz.ntmps8
  go_wp2_with fail
  obtain ⟨wb, hwb⟩ : ∃ W, w.alloc (.cells #[.int .i64 n, .slice A ws.length c, .slice B sm.length d] 57) = W := ⟨_, rfl⟩
  rw [hwb] at HX HBW ⊢
  have hwl : w.heap.size ≤ wb.heap.size := HBW.out.size
  obtain ⟨vb, hvb⟩ : ∃ b, w.heap.size = b := ⟨_, rfl⟩
  rw [hvb] at HX ⊢
  clear hwb hvb
  refine (HG1.out _ HBW.out).mono ?_
  rintro e w1 ⟨rfl, hb⟩
  have HB1 := Lib.hid (HBW.out.trans (hb.mono hwl))
  have HX1 := Lib.hid (HX.out.below hb)
  clear hb HX
  obtain ⟨x0, x1, x2⟩ := HX1.out.all
  have xl := HX1.out.lt
  go_wp2_with fail
  refine (HG2.out _ HB1.out).mono ?_
  rintro e w2 ⟨rfl, hb⟩
  have HB2 := Lib.hid (Below.tr HB1.out hb)
  have HX2 := Lib.hid (HX1.out.below hb)
  clear hb x0 x1 x2 xl HX1
  obtain ⟨x0, x1, x2⟩ := HX2.out.all
  have xl := HX2.out.lt
  have hb1 : (gv == gv) = true := by simp
  have hb2 : (ge == ge) = true := by simp
  go_wp2_with fail
  refine (HP1.out _ HB2.out).mono ?_
  rintro e w3 ⟨QA, qc, rfl, hq, hb⟩
  have HQ := Lib.hid hq
  have HB3 := Lib.hid (Below.tr HB2.out hb)
  have HX3 := Lib.hid (HX2.out.below hb)
  clear hq hb x0 x1 x2 xl HX2
  obtain ⟨x0, x1, x2⟩ := HX3.out.all
  have xl := HX3.out.lt
  go_wp2_with fail
  refine (HP2.out _ HB3.out).mono ?_
  rintro e w4 ⟨QB, qd, rfl, hq, hb⟩
  have HQ2 := Lib.hid hq
  have HQ1 := Lib.hid (HQ.out.bT hb)
  have HB4 := Lib.hid (Below.tr HB3.out hb)
  clear hq hb x0 x1 x2 xl HX3 HQ
  go_wp2_with fail
  have HSA := Lib.hid (sameLooks_ q q QA qc QB qd w4 HQ1.out HQ2.out)
  rw [show (q == q) = true by simp] at HSA
  refine HSA.out.mono ?_
  rintro e w5 ⟨rfl, nn, rfl⟩
  have hb : Below w4.heap.size w4 (w4.drewN nn) := below_drewN (Below.refl _ _) nn
  have HB5 := Lib.hid (Below.tr HB4.out hb)
  clear hb HQ1 HQ2 HSA
  go_wp2_with fail
  refine (works_ _ (HM.out.below HB5.out (Nat.le_refl _))).mono ?_
  rintro e w9 ⟨rfl, hb⟩
  have HB9 := Lib.hid (Below.tr HB5.out hb)
  clear hb
  go_wp2_with fail
  go_ret
  exact ⟨rfl, HB9.out⟩
end Go.Proofs.YtcclfhdglhbpcaaGreatDoor
