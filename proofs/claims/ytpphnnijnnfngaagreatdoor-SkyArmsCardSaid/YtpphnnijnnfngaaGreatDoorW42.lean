/-
  A grasp is from -1 to 1, and changes its sign if the arms are exchanged (plain).
-/
import Derived.Test.YtpphnnijnnfngaaGreatDoorW41
import Derived.Test.YtpphnnijnnfngaaGreatDoorW28
import Derived.Test.YtpphnnijnnfngaaGreatDoorW40
namespace Go.Proofs.YtpphnnijnnfngaaGreatDoor
open Go.RowKit Al Nat9 Ring9

theorem red_neg (m : Bool) (n d : Nat) : (Nat9.red m n d).neg = Nat9.red (!m) n d := by
  unfold Nat9.red Rat9.neg
  by_cases h0 : n = 0
  · rw [if_pos h0, if_pos h0]
    rfl
  · rw [if_neg h0, if_neg h0]
    have h : 0 < n / Nat.gcd n d := Nat.div_pos (Nat.gcd_le_left d (by omega)) (Nat.gcd_pos_of_pos_left d (by omega))
    show (⟨!m && decide (0 < n / Nat.gcd n d), n / Nat.gcd n d, d / Nat.gcd n d⟩ : Rat9) = _
    rw [decide_eq_true h, Bool.and_true]
theorem red_zero (m k : Bool) (d : Nat) : Nat9.red m 0 d = Nat9.red k 0 d := by
  unfold Nat9.red
  rw [if_pos rfl, if_pos rfl]
/-- A number from 0 to 1. -/
structure Unit9 (a : Rat9) : Prop where
  s : a.m = false
  p : 0 < a.d
  l : a.n ≤ a.d
theorem diff_neg {a b : Rat9} (ha : Unit9 a) (hb : Unit9 b) : (a.add b.neg).neg = b.add a.neg := by
  obtain ⟨am, an, ad⟩ := a
  obtain ⟨bm, bn, bd⟩ := b
  obtain ⟨rfl, a0, al⟩ := ha
  obtain ⟨rfl, b0, bl⟩ := hb
  simp only at a0 al b0 bl
  unfold Rat9.add
  rw [red_neg]
  simp only [Rat9.neg, Bool.not_false, Bool.true_and]
  rw [Nat.mul_comm bd ad]
  by_cases hb0 : bn = 0
  · subst hb0
    simp only [Nat.zero_mul, Nat.lt_irrefl, decide_false]
    by_cases ha0 : an = 0
    · subst ha0
      simp only [Nat.zero_mul, Nat.lt_irrefl, decide_false, addS, if_true]
      exact red_zero _ _ _
    · have hx : 0 < an * bd := Nat.mul_pos (by omega) b0
      rw [decide_eq_true (show 0 < an by omega)]
      simp only [addS, if_true, Nat.add_zero]
      rw [if_neg (by decide), if_neg (by omega)]
      rfl
  · have hy : 0 < bn * ad := Nat.mul_pos (by omega) a0
    rw [decide_eq_true (show 0 < bn by omega)]
    by_cases ha0 : an = 0
    · subst ha0
      simp only [Nat.zero_mul, Nat.lt_irrefl, decide_false, addS, if_true, Nat.add_zero]
      rw [if_neg (by decide), if_neg (by omega)]
      rfl
    · have hx : 0 < an * bd := Nat.mul_pos (by omega) b0
      rw [decide_eq_true (show 0 < an by omega)]
      unfold addS
      rw [if_neg (show ¬ (false = true) by decide), if_neg (show ¬ (false = true) by decide)]
      by_cases h1 : bn * ad ≤ an * bd
      · rw [if_pos h1]
        by_cases h2 : an * bd ≤ bn * ad
        · rw [if_pos h2, show an * bd - bn * ad = 0 by omega, show bn * ad - an * bd = 0 by omega]
          exact red_zero _ _ _
        · rw [if_neg h2]
          rfl
      · rw [if_neg h1, if_pos (show an * bd ≤ bn * ad by omega)]
        rfl
theorem red_le (m : Bool) {n d : Nat} (hd : 0 < d) (h : n ≤ d) : (Nat9.red m n d).n ≤ (Nat9.red m n d).d ∧ 0 < (Nat9.red m n d).d := by
  unfold Nat9.red
  by_cases h0 : n = 0
  · rw [if_pos h0]
    exact ⟨by decide, by decide⟩
  · rw [if_neg h0]
    exact ⟨Nat.div_le_div_right h, Nat.div_pos (Nat.gcd_le_right n hd) (Nat.gcd_pos_of_pos_right n hd)⟩
theorem addS_le (am bm : Bool) {x y D : Nat} (hx : x ≤ D) (hy : y ≤ D) (h : am = bm → x = 0 ∨ y = 0) : (addS am x bm y).2 ≤ D := by
  unfold addS
  split
  · rename_i e
    have := h e
    show x + y ≤ D
    omega
  · split
    · show x - y ≤ D
      omega
    · show y - x ≤ D
      omega
theorem diff_le {a b : Rat9} (ha : Unit9 a) (hb : Unit9 b) : (a.add b.neg).n ≤ (a.add b.neg).d ∧ 0 < (a.add b.neg).d := by
  have hD : 0 < a.d * b.neg.d := Nat.mul_pos ha.p hb.p
  refine red_le _ hD (addS_le _ _ (Nat.mul_le_mul ha.l (Nat.le_refl _)) ?_ ?_)
  · show b.n * a.d ≤ a.d * b.d
    rw [Nat.mul_comm a.d b.d]
    exact Nat.mul_le_mul hb.l (Nat.le_refl _)
  · intro e
    refine Or.inr ?_
    have e' : a.m = (!b.m && decide (0 < b.n)) := e
    rw [ha.s, hb.s, Bool.not_false, Bool.true_and] at e'
    have h0 : ¬ 0 < b.n := of_decide_eq_false e'.symm
    show b.n * a.d = 0
    rw [show b.n = 0 by omega, Nat.zero_mul]
theorem red_n0 (m : Bool) (d : Nat) : (Nat9.red m 0 d).n = 0 := by
  unfold Nat9.red
  rw [if_pos rfl]
theorem cmp_one {x : Rat9} (h : x.n ≤ x.d) : x.cmp ⟨false, 1, 1⟩ ≤ 0 := by
  obtain ⟨m, n, d⟩ := x
  simp only at h
  unfold Rat9.cmp Rat9.add
  simp only [Rat9.neg, Bool.not_false, Bool.true_and, Nat.mul_one, Nat.one_mul, show decide (0 < 1) = true from rfl]
  cases m
  · unfold addS
    rw [if_neg (show ¬ (false = true) by decide)]
    by_cases h1 : d ≤ n
    · rw [if_pos h1, show n - d = 0 by omega, red_n0, if_pos rfl]
      decide
    · rw [if_neg h1]
      split
      · decide
      · rename_i h2
        rw [if_pos]
        · decide
        · unfold Nat9.red
          rw [if_neg (show ¬ d - n = 0 by omega)]
  · unfold addS
    rw [if_pos rfl]
    split
    · decide
    · rename_i h2
      rw [if_pos]
      · decide
      · unfold Nat9.red
        by_cases h3 : n + d = 0
        · exfalso
          simp only [h3] at h2
          exact h2 (red_n0 _ _)
        · rw [if_neg (show ¬ (true, n + d).2 = 0 from h3)]
theorem cmp_less {x : Rat9} (h : x.n ≤ x.d) : 0 ≤ x.cmp ⟨true, 1, 1⟩ := by
  obtain ⟨m, n, d⟩ := x
  simp only at h
  unfold Rat9.cmp Rat9.add
  simp only [Rat9.neg, Bool.not_true, Bool.false_and, Nat.mul_one, Nat.one_mul]
  have F : ∀ k : Nat, (Nat9.red false k d).m = false := fun k => by
    unfold Nat9.red
    split <;> rfl
  cases m
  · unfold addS
    rw [if_pos rfl]
    split
    · decide
    · rw [F, if_neg (by decide)]
      decide
  · unfold addS
    rw [if_neg (show ¬ (true = false) by decide)]
    by_cases h1 : d ≤ n
    · rw [if_pos h1, show n - d = 0 by omega, red_n0, if_pos rfl]
      decide
    · rw [if_neg h1]
      split
      · decide
      · rw [F, if_neg (by decide)]
        decide
theorem graspP_unit {a d : V3} (ha : Arm9 a) (hd : Dir9 d) : Unit9 (graspP a d) := by
  obtain ⟨⟨n0, -⟩, d0, -⟩ := part_in ha hd
  have hc : dotI a d * dotI a d ≤ dotI a a * dotI d d := cauchy a.1 a.2.1 a.2.2 d.1 d.2.1 d.2.2
  have hl := red_le (decide (dotI a d * dotI a d < 0) != decide (dotI a a * dotI d d < 0)) (n := (dotI a d * dotI a d).natAbs) (d := (dotI a a * dotI d d).natAbs) (by omega) (by omega)
  refine ⟨?_, hl.2, hl.1⟩
  show (Nat9.red (decide (dotI a d * dotI a d < 0) != decide (dotI a a * dotI d d < 0)) _ _).m = false
  rw [decide_eq_false (show ¬ dotI a d * dotI a d < 0 by omega), decide_eq_false (show ¬ dotI a a * dotI d d < 0 by omega)]
  unfold Nat9.red
  split <;> rfl
/-- The arms are exchanged. -/
def swapS (s : Site) : Site := { s with u := s.v, v := s.u }
theorem grasp_swap {s : Site} {d : V3} (hu : Arm9 s.u) (hv : Arm9 s.v) (hd : Dir9 d) : (graspF s d).neg = graspF (swapS s) d := diff_neg (graspP_unit hu hd) (graspP_unit hv hd)
theorem grasp_in {s : Site} {d : V3} (hu : Arm9 s.u) (hv : Arm9 s.v) (hd : Dir9 d) : (graspF s d).cmp ⟨false, 1, 1⟩ ≤ 0 ∧ 0 ≤ (graspF s d).cmp ⟨true, 1, 1⟩ := by
  have h := diff_le (graspP_unit hu hd) (graspP_unit hv hd)
  exact ⟨cmp_one h.1, cmp_less h.1⟩
theorem one_get : GetG (bT (txR ⟨false, 1, 1⟩)) ⟨false, 1, 1⟩ := getG_of ⟨by decide, by decide, fun h => by cases h⟩ (big_short (Nat.le_trans (dg_short (by decide)) (by decide)) (Nat.le_trans (dg_short (by decide)) (by decide)))
theorem less_get : GetG (bT (txR ⟨true, 1, 1⟩)) ⟨true, 1, 1⟩ := getG_of ⟨by decide, by decide, fun _ => by decide⟩ (big_short (Nat.le_trans (dg_short (by decide)) (by decide)) (Nat.le_trans (dg_short (by decide)) (by decide)))
end Go.Proofs.YtpphnnijnnfngaaGreatDoor

/-
  Plainly: the network with its arms exchanged.
-/
namespace Go.Proofs.YtpphnnijnnfngaaGreatDoor
open Go.RowKit Al Nat9 Ring9

def swN (x : NSi) : NSi := ⟨x.nm, swapS x.s⟩
def swL (L : List NSi) : List NSi := L.map swN
theorem swL_len (L : List NSi) : (swL L).length = L.length := List.length_map _
theorem swL_snoc {L : List NSi} {k : Nat} (h : k < L.length) : nsCells (swL (L.take (k + 1))) = nsCells (swL (L.take k)) ++ nsCell (swN L[k]) := by
  unfold swL nsCells
  rw [List.take_succ_eq_append_getElem h, List.map_append, List.flatMap_append]
  simp
theorem ns_one (x : NSi) : ∀ u ∈ nsCell x, u.oneCell' = true := by
  intro u hu
  simp [nsCell, siCell] at hu
  rcases hu with rfl | rfl | rfl | rfl | rfl | rfl | rfl | rfl | rfl | rfl <;> rfl
theorem swL_nm {L : List NSi} (h : ∀ x ∈ L, x.nm.size ≤ maxLen) : ∀ x ∈ swL L, x.nm.size ≤ maxLen := fun x hx => by
  obtain ⟨y, hy, rfl⟩ := List.mem_map.1 hx
  exact h y hy
theorem siteOk_sw (s : Site) : siteOkB (swapS s) = siteOkB s := by
  unfold siteOkB swapS
  cases mostB s.p 65536 <;> cases mostB s.u 100 <;> cases mostB s.v 100 <;> cases nzB s.u <;> cases nzB s.v <;> rfl
theorem netB_sw (L : List NSi) : netB (swL L) = netB L := by
  have e1 : (swL L).map (fun x => x.nm.data.toList) = L.map (fun x => x.nm.data.toList) := by unfold swL; rw [List.map_map]; rfl
  have e2 : ((swL L).all fun x => siteOkB x.s) = L.all fun x => siteOkB x.s := by
    unfold swL
    rw [List.all_map]
    congr 1
    funext x
    exact siteOk_sw x.s
  unfold netB
  rw [e1, e2, swL_len]
theorem celG_sw (L : List NSi) (n cl : Int) : celG (swL L) n cl = celG L n cl := by
  have e : netG (swL L) n = netG L n := by unfold netG netE; rw [netB_sw]
  unfold celG
  rw [e]
/-- The text of site k's grasp. -/
def grN (L : List NSi) (d : V3) (k : Nat) (h : k < L.length) : Rat9 := graspF L[k].s d
theorem gra_len {L : List NSi} {n cl : Int} (h : celG L n cl = 0) : (graE L n cl).length = L.length := by
  unfold graE grL sites
  rw [if_pos h]
  simp
theorem gra_at {L : List NSi} {n cl : Int} (h : celG L n cl = 0) {k : Nat} (hk : k < (graE L n cl).length) (hk' : k < L.length) : (graE L n cl)[k] = bT (txR (graspF L[k].s (dirV n cl))) := by
  have e : graE L n cl = L.map fun x => bT (txR (graspF x.s (dirV n cl))) := by
    unfold graE grL sites
    rw [if_pos h, List.map_map]
    rfl
  simp only [e, List.getElem_map]
/-- What is asked of each site's grasp. -/
theorem gra_site {L : List NSi} {n cl : Int} (h : celG L n cl = 0) {k : Nat} (hk : k < L.length) : GetG (bT (txR (graspF L[k].s (dirV n cl)))) (graspF L[k].s (dirV n cl)) ∧ bigB (graspF L[k].s (dirV n cl)).neg = false ∧ (graspF L[k].s (dirV n cl)).neg = graspF (swapS L[k].s) (dirV n cl)
    ∧ (graspF L[k].s (dirV n cl)).cmp ⟨false, 1, 1⟩ ≤ 0 ∧ 0 ≤ (graspF L[k].s (dirV n cl)).cmp ⟨true, 1, 1⟩ := by
  obtain ⟨hv, hc⟩ := celG_ok h
  obtain ⟨hu, hw⟩ := net_arms hv (s := L[k].s) (List.mem_map.2 ⟨L[k], List.getElem_mem hk, rfl⟩)
  have hd := dir9 hc
  have e := grasp_swap hu hw hd
  obtain ⟨h1, h2⟩ := grasp_in hu hw hd
  refine ⟨graspF_get hu hw hd, ?_, e, h1, h2⟩
  rw [e]
  exact graspF_big (s := swapS L[k].s) hw hu hd
end Go.Proofs.YtpphnnijnnfngaaGreatDoor

/-
  num.Neg of real numbers.
-/
namespace Go.Proofs.YtpphnnijnnfngaaGreatDoor
open Go.RowKit Al Nat9

set_option maxRecDepth 100000 in
set_option maxHeartbeats 8000000 in
theorem ofNeg_ (s : ByteArray) (a r : Rat9) (ha : GetG s a) (hr : a.neg = r) (hnb : bigB r = false) (w : World) (hM : RdN w) : Calls Tryz.prog 19 #[.string s, .func (.func 20) #[] #[]] w fun e w' => e = .returned (.tuple #[.string (bT (txR r)), .int .i64 0]) ∧ Below w.heap.size w w' := by
  have HM := Lib.hid hM
  have hlr : RLn 200000 r := by rw [← hr]; exact ha.ln.neg.more (by omega)
  have HS : Hid (∀ W (u : VR), u.r = a → u.ok W → Calls Tryz.prog 20 #[u.val] W (RealT r W)) := fun W u e1 h1 => by
    have h := vneg_ u W h1
    rw [e1, hr] at h
    exact h
  have HPT : Hid (∀ W (v : VR), v.r = r → v.ok W → Tab W → Calls Tryz.prog 48 #[v.val] W fun e w' => e = .returned (.tuple #[.string (bT (txR r)), .int .i64 0]) ∧ Below W.heap.size W w') := fun W v hv hW hTb => by
    have h := putR_ v 200000 (by rw [hv]; exact hlr) (by omega) (by rw [hv]; exact hnb) W hW hTb
    rw [hv] at h
    exact h
  have HG1 : Hid (∀ W, RdN W → Calls Tryz.prog 47 #[.string s] W (VabT a W)) := fun W hW => getR_ s a W hW ha
  clear hM ha hlr hr hnb
  go_enter Tryz.func19, Tryz.ntmps19
  go_wp2_with fail
  refine (HG1.out _ HM.out).mono ?_
  rintro e w1 ⟨u, hu, rfl, hok, hb⟩
  have HU := Lib.hid hu
  have HO := Lib.hid hok
  have HW1 := Lib.hid hb
  have hz1 := hb.size
  clear hu hok hb
  obtain ⟨⟨pm, pn, pd⟩, pA, pc, pD, pe, pB, pb, pE, pf⟩ := u
  go_wp2_with fail
  have HX : Hid (Below w1.heap.size w1 (w1.alloc (.cells #[.bool pm, .slice pA (dg pn).length pc, .slice pD (dg pd).length pe, .bool false, .slice pB 0 pb, .slice pE 1 pf] 71))) := (Below.refl _ _).alloc (Nat.le_refl _) _
  refine (HS.out _ ⟨⟨pm, pn, pd⟩, pA, pc, pD, pe, pB, pb, pE, pf⟩ HU.out (HO.out.below HX.out)).mono ?_
  rintro e w5 ⟨v5, hv5, rfl, hok5, hbn⟩
  obtain ⟨⟨sm, sn, sd⟩, sA, sc, sD, se, sB, sb, sE, sf⟩ := v5
  have HV5 := Lib.hid hv5
  have HOK5 := Lib.hid hok5
  have HW5 : Hid (Below w.heap.size w w5) := HW1.out.trans ((HX.out.trans (hbn.mono HX.out.size)).mono hz1)
  have hz5 := HW5.out.size
  have HT5 : Hid (Tab w5) := (HM.out.below HW5.out (Nat.le_refl _)).t
  clear hv5 hok5 hbn HX HO
  go_wp2_with fail
  refine (HPT.out w5 ⟨⟨sm, sn, sd⟩, sA, sc, sD, se, sB, sb, sE, sf⟩ HV5.out HOK5.out HT5.out).mono ?_
  rintro e w6 ⟨rfl, hb6⟩
  have HW6 : Hid (Below w.heap.size w w6) := HW5.out.trans (hb6.mono hz5)
  clear hb6
  go_wp2_with fail
  go_ret2
  exact ⟨rfl, HW6.out⟩
set_option maxRecDepth 100000 in
theorem NegR_ (s : ByteArray) (a r : Rat9) (ha : GetG s a) (hr : a.neg = r) (hnb : bigB r = false) (w : World) (hM : RdN w) : Calls Tryz.prog 6 #[.string s] w fun e w' => e = .returned (.tuple #[.string (bT (txR r)), .int .i64 0]) ∧ Below w.heap.size w w' := by
  have H := Lib.hid (ofNeg_ s a r ha hr hnb w hM)
  clear ha hr hnb hM
  go_enter Tryz.func6, Tryz.ntmps6
  go_wp2_with fail
  refine H.out.mono ?_
  rintro e w6 ⟨rfl, hb6⟩
  have HW6 := Lib.hid hb6
  clear hb6
  go_wp2_with fail
  go_ret2
  exact ⟨rfl, HW6.out⟩
end Go.Proofs.YtpphnnijnnfngaaGreatDoor
