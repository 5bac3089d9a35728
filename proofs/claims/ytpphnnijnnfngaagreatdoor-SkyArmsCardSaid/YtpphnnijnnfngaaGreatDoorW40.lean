/-
  Lists of real numbers, Cmp, for numbers of any size.
-/
import Derived.Test.YtpphnnijnnfngaaGreatDoorW39
import Derived.Test.YtpphnnijnnfngaaGreatDoorW09
namespace Go.Proofs.YtpphnnijnnfngaaGreatDoor
open Go.RowKit Al Nat9

set_option maxRecDepth 100000 in
set_option maxHeartbeats 8000000 in
theorem all1R_ (L : List ByteArray) (rs : List Rat9) (hlen : rs.length = L.length) (hg : ∀ (k : Nat) (s : ByteArray) (r : Rat9), L[k]? = some s → rs[k]? = some r → GetG s r) (hl : L.length ≤ 1000) (A : Option Addr) (c : Nat) (w : World) (hM : RdN w) (hL : Sl w w.heap.size 1 A L.length c (strs L)) :
    Calls Tryz.prog 50 #[.slice A L.length c, .func (.func 47) #[] #[]] w (VsT rs w) := by
  obtain ⟨i0, hi, hz0, hz1, hz2⟩ := info_parts infoVal
  have HG : Hid (∀ (k : Nat) (s : ByteArray) (r : Rat9), L[k]? = some s → rs[k]? = some r → ∀ W, RdN W → Calls Tryz.prog 47 #[.string s] W (VabT r W)) := fun k s r h1 h2 W hW => getR_ s r W hW (hg k s r h1 h2)
  have HL := Lib.hid hL
  have HM := Lib.hid hM
  have hMs : 0 < w.heap.size := by obtain ⟨m, hm⟩ := hM.m; exact cell_lt hm
  have HLEN := Lib.hid hlen
  clear hg hL hM hlen
  go_enter Tryz.func50, Tryz.ntmps50
  go_wp2_with fail
  go_loopw [6, 13] (fun o i wr => A1Rel rs w o i wr) (fun _ i _ => L.length - (intOf i).toNat)
  case atStart => exact ⟨[], none, 0, by first | rfl | go_num, rfl, Nat.zero_le _, Lib.hid (by simp), Lib.hid (by simp), Lib.hid (World.ownsRow_nil _ _ _ _), Lib.hid (Below.refl _ _)⟩
  case round =>
    obtain ⟨vs, B, cc, rfl, rfl, hk, HV, HOK, HO, HW⟩ := hrel
    obtain ⟨k, hkk⟩ : ∃ k, vs.length = k := ⟨_, rfl⟩
    have HKK := Lib.hid hkk
    have hkl : k ≤ L.length := by rw [← HLEN.out, ← hkk]; exact hk
    have hsz := HW.out.size
    rw [hkk] at HV HO ⊢
    clear hkk hk
    by_cases hlt : k < L.length
    · obtain ⟨tb, tof, rfl, htb, c0⟩ := (HL.out.below HW.out).strAt hlt
      have hrk : k < rs.length := by rw [HLEN.out]; exact hlt
      obtain ⟨rk, hrk2⟩ : ∃ r, rs[k] = r := ⟨_, rfl⟩
      have HTK : Hid (rs.take (k + 1) = rs.take k ++ [rk]) := by show _ = _; rw [List.take_succ_eq_append_getElem hrk, hrk2]
      obtain ⟨sk, hsk⟩ : ∃ s, L[k] = s := ⟨_, rfl⟩
      have HGk := Lib.hid (HG.out k sk rk (by rw [List.getElem?_eq_getElem hlt, hsk]) (by rw [List.getElem?_eq_getElem hrk, hrk2]))
      rw [hsk] at c0
      clear hrk2 hsk hrk
      have hlt' : (k : Int) < (L.length : Int) := by omega
      have htb2 : tb < wr.heap.size := by omega
      go_wp2_with fail
      refine (HGk.out _ (HM.out.below HW.out (Nat.le_refl _))).mono ?_
      rintro e w1 ⟨v, hv, rfl, hok, hb⟩
      have HV1 := Lib.hid hv
      have HOK1 := Lib.hid hok
      have HB1 := Lib.hid hb
      have hzw := hb.size
      have HO1 := Lib.hid (own_below HO.out (Nat.le_refl _) hb)
      have HVC : Hid (VsC (vs ++ [v]) = VsC vs ++ v.cells) := VsC_snoc vs v
      have HVO := Lib.hid (VR.one v)
      clear hv hok hb
      obtain ⟨⟨rm, rn, rd⟩, A2, c2, D2, d2, B2, b2, E2, f2⟩ := v
      go_wp2_with (at_builtin; go_must (refine wpList_append_lies _ rfl _ _ 112 rfl w.heap.size 71 i0 (.agg #[.bool false, .slice none 0 0, .slice none 0 0, .bool false, .slice none 0 0, .slice none 0 0]) 6 112 Tryz.underlying112 hi hz0 hz1 hz2 rfl (by decide) (.slice B k cc) k _ rfl (own_below HO1.out (Nat.le_refl _) (((Below.refl _ _).alloc (Nat.le_refl _) _).alloc (by simp) _)) _ 1 1 (VR.cells ⟨⟨rm, rn, rd⟩, A2, c2, D2, d2, B2, b2, E2, f2⟩) rfl rfl (World.news_of_block (heapAtNew _ _ (by simp))) HVO.out (by decide) (by unfold maxLen; omega) (by omega) (by simp; omega) _ rfl ?_); intro g cap w6 hown6 hg6 hat6 hlt6; have z6 := hg6.size; (try simp at z6))
      go_roundw
      case rel =>
        have HX1 : Below w1.heap.size w1 _ := ((Below.refl w1.heap.size w1).alloc (Nat.le_refl _) (.cells #[.bool rm, .slice A2 (dg rn).length c2, .slice D2 (dg rd).length d2, .bool false, .slice B2 0 b2, .slice E2 1 f2] 71)).alloc (by simp) (.cells #[.bool rm, .slice A2 (dg rn).length c2, .slice D2 (dg rd).length d2, .bool false, .slice B2 0 b2, .slice E2 1 f2] 71)
        have htag := own_tag (own_below HO1.out (Nat.le_refl _) HX1) (by decide)
        have hl1 : (vs ++ [(⟨⟨rm, rn, rd⟩, A2, c2, D2, d2, B2, b2, E2, f2⟩ : VR)]).length = k + 1 := by rw [List.length_append, HKK.out]; rfl
        refine ⟨vs ++ [⟨⟨rm, rn, rd⟩, A2, c2, D2, d2, B2, b2, E2, f2⟩], some ⟨g, 0, none⟩, cap, by rw [hl1]; go_num, by rw [hl1], by rw [hl1, HLEN.out]; omega, Lib.hid ?_, Lib.hid (fun u hu => ?_), Lib.hid (by rw [hl1, HVC.out]; exact hown6), Lib.hid ?_⟩
        · rw [hl1, HTK.out, List.map_append, HV.out, List.map_singleton]
          rw [show (⟨rm, rn, rd⟩ : Rat9) = rk from HV1.out]
        · rcases List.mem_append.1 hu with h | h
          · exact (((HOK.out u h).below HB1.out).below HX1).apartT htag hg6
          · rw [List.mem_singleton.1 h]
            exact (HOK1.out.below HX1).apartT htag hg6
        · exact (HW.out.trans ((HB1.out.trans (HX1.mono hzw)).mono hsz)).grown hg6 (by simp; omega) (fun g h => (own_lt HO1.out h).1)
      case measure => simp [intOf]; omega
    · obtain rfl : k = L.length := by omega
      go_wp2_with fail
      go_ret2
      refine ⟨vs, B, cc, by rw [HKK.out]; rfl, ?_, HOK.out, ?_, HW.out⟩
      · rw [HV.out, ← HLEN.out, List.take_length]
      · have h := Sl.of_own HO.out
        rw [HKK.out]
        exact h
set_option maxRecDepth 100000 in
set_option maxHeartbeats 8000000 in
theorem realsR_ (L : List ByteArray) (rs : List Rat9) (hlen : rs.length = L.length) (hg : ∀ (k : Nat) (s : ByteArray) (r : Rat9), L[k]? = some s → rs[k]? = some r → GetG s r) (hl : L.length ≤ 1000) (A : Option Addr) (c : Nat) (w : World) (hM : RdN w) (hL : Sl w w.heap.size 1 A L.length c (strs L)) :
    Calls Tryz.prog 21 #[.slice A L.length c] w (QsT (.int .i64 0) rs w) := by
  have HA := Lib.hid (all1R_ L rs hlen hg hl A c w hM hL)
  have HLEN := Lib.hid hlen
  clear hg hM hL hlen
  go_enter Tryz.func21, Tryz.ntmps21
  go_wp2_with fail
  refine HA.out.mono ?_
  rintro e w1 ⟨vs, B, b, rfl, hr, hok, hs, hb⟩
  have HW := Lib.hid hb
  have hvl : vs.length ≤ 1000 := by
    have := congrArg List.length hr
    rw [List.length_map, HLEN.out] at this
    omega
  have H2 := Lib.hid (all2_ vs hvl B b w1 hok hs)
  rw [hr] at H2
  clear hr hok hs hb
  go_wp2_with fail
  refine H2.out.mono ?_
  rintro e w2 ⟨qs, D, d, rfl, hq, hok, hs, hb⟩
  have HQ := Lib.hid hq
  have HOK := Lib.hid hok
  have HS := Lib.hid hs
  have HW2 := Lib.hid (HW.out.trans (hb.mono HW.out.size))
  clear hq hok hs hb
  go_wp2_with fail
  go_ret2
  exact ⟨qs, D, d, rfl, HQ.out, HOK.out, HS.out, HW2.out⟩
set_option maxRecDepth 100000 in
set_option maxHeartbeats 8000000 in
theorem CmpR_ (s t : ByteArray) (a b : Rat9) (ha : GetG s a) (hb : GetG t b) (w : World) (hM : RdN w) : Calls Tryz.prog 7 #[.string s, .string t] w fun e w' => e = .returned (.tuple #[.int .i64 (a.cmp b), .int .i64 0]) ∧ Below w.heap.size w w' := by
  have HR : Hid (∀ W A c, RdN W → Sl W W.heap.size 1 A 2 c (strs [s, t]) → Calls Tryz.prog 21 #[.slice A 2 c] W (QsT (.int .i64 0) [a, b] W)) := fun W A c hW hL => realsR_ [s, t] [a, b] rfl (fun k s' r h1 h2 => by
    match k, h1, h2 with
    | 0, h1, h2 => cases h1; cases h2; exact ha
    | 1, h1, h2 => cases h1; cases h2; exact hb
    | k + 2, h1, h2 => simp at h1) (by simp) A c W hW hL
  have HM := Lib.hid hM
  have HCP : Hid (∀ W A1 D1 A2 D2 c1 d1 c2 d2, RIn W a A1 c1 D1 d1 → RIn W b A2 c2 D2 d2 → Calls Tryz.prog 22 #[a.val A1 c1 D1 d1, b.val A2 c2 D2 d2] W fun e w' => e = .returned (.int .i64 (a.cmp b)) ∧ Below W.heap.size W w') := fun W A1 D1 A2 D2 c1 d1 c2 d2 h1 h2 => rcompareG_ a b A1 D1 A2 D2 c1 d1 c2 d2 W h1 h2 (ha.ln.more (by omega)) (hb.ln.more (by omega))
  obtain ⟨v, hv⟩ : ∃ v, a.cmp b = v := ⟨_, rfl⟩
  rw [hv] at HCP ⊢
  clear hv ha hb hM
  obtain ⟨am, an, ad⟩ := a
  obtain ⟨bm, bn, bd⟩ := b
  simp only [Rat9.val] at HCP
  go_enter Tryz.func7, Tryz.ntmps7
  go_wp2_with fail
  refine (HR.out _ _ _ (HM.out.below (show Below w.heap.size w _ from (by repeat (first | exact Below.refl _ _ | assumption | refine below_drewN ?_ _ | refine Below.drew ?_ | refine Below.setCell ?_ (by first | omega | (simp; done) | (simp; omega)) _ | refine Below.alloc ?_ (by first | omega | (simp; done) | (simp; omega)) _))) (Nat.le_refl _)) ?hs).mono ?_
  case hs => exact ⟨rfl, by decide, by decide, (by intro h; cases h), fun _ => ⟨w.heap.size, 0, rfl, by simp, fun j u hu => by
    match j, hu with
    | 0, hu => cases hu; simp [go_sem]
    | 1, hu => cases hu; simp [go_sem]
    | j + 2, hu => simp [strs] at hu⟩⟩
  rintro e w1 ⟨qs, D, d, rfl, hq, hok, hs, hb⟩
  have HW : Hid (Below w.heap.size w w1) := (show Below w.heap.size w _ from (by repeat (first | exact Below.refl _ _ | assumption | refine below_drewN ?_ _ | refine Below.drew ?_ | refine Below.setCell ?_ (by first | omega | (simp; done) | (simp; omega)) _ | refine Below.alloc ?_ (by first | omega | (simp; done) | (simp; omega)) _))).trans (hb.mono (by simp))
  clear hb
  match qs, hq, hok, hs with
  | [⟨q1, A1, c1, D1, d1⟩, ⟨q2, A2, c2, D2, d2⟩], hq, hok, hs =>
    simp only [List.map_cons, List.map_nil, List.cons.injEq, and_true] at hq
    obtain ⟨rfl, rfl⟩ := hq
    have HO1 := Lib.hid (hok _ (List.mem_cons_self ..))
    have HO2 := Lib.hid (hok _ (List.mem_cons_of_mem _ (List.mem_cons_self ..)))
    have hcap : 2 ≤ d := hs.cap
    obtain ⟨tb, tof, rfl, htb, hc⟩ := hs.at_ (Nat.succ_pos _)
    have c0 : w1.cell? ⟨tb, tof, none⟩ = some (.bool am) := hc 0 (.bool am) rfl
    have c1' := hc 1 (.slice A1 (dg an).length c1) rfl
    have c2' := hc 2 (.slice D1 (dg ad).length d1) rfl
    have c3 := hc 3 (.bool bm) rfl
    have c4 := hc 4 (.slice A2 (dg bn).length c2) rfl
    have c5 := hc 5 (.slice D2 (dg bd).length d2) rfl
    have hz : Hid (∀ W, Below w1.heap.size w1 W → RIn W ⟨am, an, ad⟩ A1 c1 D1 d1 ∧ RIn W ⟨bm, bn, bd⟩ A2 c2 D2 d2) := fun W hW => ⟨HO1.out.below hW, HO2.out.below hW⟩
    clear hc hs hok
    go_wp2_with fail
    refine wp_region_bw2 (by kernel_rfl) (by kernel_rfl) (fun hbwc => ?_)
    repeat (go_big_quiet_step ((go_at_call 22; exact bwCall (HCP.out _ _ _ _ _ _ _ _ _ (hz.out _ (BW.below _)).1 (hz.out _ (BW.below _)).2))))
    refine wpQuiet_nil ?_
    clear hbwc
    intro w2 hb
    have HW2 := Lib.hid (HW.out.trans (hb.mono HW.out.size))
    clear hb
    go_wp2_with fail
    go_ret2
    exact ⟨rfl, HW2.out⟩
end Go.Proofs.YtpphnnijnnfngaaGreatDoor

/-
  negative, plus of real values of any size.
-/
namespace Go.Proofs.YtpphnnijnnfngaaGreatDoor
open Go.RowKit Al Nat9

/-- The rational number 0 is handed back. -/
def ZrT (w : World) (e : Ending) (w' : World) : Prop := ∃ B b E f, e = .returned (.agg #[.bool false, .slice B 0 b, .slice E 1 f]) ∧ NaIn w' B b 0 ∧ NaIn w' E f 1 ∧ Below w.heap.size w w'
theorem zneg_ (B E : Option Addr) (b f : Nat) (w : World) (h0 : NaIn w B b 0) (h1 : NaIn w E f 1) : Calls Tryz.prog 49 #[.agg #[.bool false, .slice B 0 b, .slice E 1 f]] w (ZrT w) := by
  have h := negative_ VR.zer B E b f w h0 h1
  simp only [Rat9.val, len0, len1] at h
  refine h.mono ?_
  rintro e w' ⟨A, c, D, d, rfl, hn, hd, hb⟩
  exact ⟨A, c, D, d, by rw [show VR.zer.neg.n = 0 from rfl, show VR.zer.neg.d = 1 from rfl, len0, len1]; rfl, hn, hd, hb⟩
theorem zer_add : VR.zer.add VR.zer = VR.zer := rfl
theorem zer_ln : RLn 100000 VR.zer := ⟨by show (dg 0).length ≤ _; rw [len0]; omega, by show (dg 1).length ≤ _; rw [len1]; omega, by decide⟩
theorem zplus_ (B E B2 E2 : Option Addr) (b f b2 f2 : Nat) (w : World) (h0 : NaIn w B b 0) (h1 : NaIn w E f 1) (h2 : NaIn w B2 b2 0) (h3 : NaIn w E2 f2 1) : Calls Tryz.prog 54 #[.agg #[.bool false, .slice B 0 b, .slice E 1 f], .agg #[.bool false, .slice B2 0 b2, .slice E2 1 f2]] w (ZrT w) := by
  have h := rplusG_ VR.zer VR.zer B E B2 E2 b f b2 f2 w ⟨h0, h1⟩ ⟨h2, h3⟩ zer_ln zer_ln
  rw [zer_add] at h
  simp only [Rat9.val, len0, len1] at h
  refine h.mono ?_
  rintro e w' ⟨A, c, D, d, rfl, hn, hd, hb⟩
  exact ⟨A, c, D, d, by rw [show VR.zer.n = 0 from rfl, show VR.zer.d = 1 from rfl, len0, len1], hn, hd, hb⟩
set_option maxRecDepth 100000 in
set_option maxHeartbeats 8000000 in
theorem vneg_ (v : VR) (w : World) (h : v.ok w) : Calls Tryz.prog 20 #[v.val] w (RealT v.r.neg w) := by
  obtain ⟨r, hr⟩ : ∃ r, v.r.neg = r := ⟨_, rfl⟩
  have H := Lib.hid h
  have HX1 : Hid (∀ W, Below w.heap.size w W → Calls Tryz.prog 49 #[v.r.val v.A v.c v.D v.d] W (RatT r W)) := fun W hW => hr ▸ negative_ v.r v.A v.D v.c v.d W (H.out.n.below hW) (H.out.d.below hW)
  have HX2 : Hid (∀ W, Below w.heap.size w W → Calls Tryz.prog 49 #[.agg #[.bool false, .slice v.B 0 v.b, .slice v.E 1 v.f]] W (ZrT W)) := fun W hW => zneg_ v.B v.E v.b v.f W (H.out.z.below hW) (H.out.o.below hW)
  rw [hr]
  clear hr h
  obtain ⟨⟨pm, pn, pd⟩, pA, pc, pD, pe, pB, pb, pE, pf⟩ := v
  simp only [VR.val, Rat9.val] at HX1 HX2 ⊢
  go_enter Tryz.func20, Tryz.ntmps20
  go_upto_region 1 with fail
  obtain ⟨X, hX⟩ : ∃ X, ((w.alloc (.cells #[.bool pm, .slice pA (dg pn).length pc, .slice pD (dg pd).length pe, .bool false, .slice pB 0 pb, .slice pE 1 pf] 71)).alloc (.cells #[.bool false, .slice none 0 0, .slice none 0 0, .bool false, .slice none 0 0, .slice none 0 0] 71)) = X := ⟨_, rfl⟩
  have ZX : Zv X (w.heap.size + 1) := by rw [← hX]; have h := zv_new (w.alloc (.cells #[.bool pm, .slice pA (dg pn).length pc, .slice pD (dg pd).length pe, .bool false, .slice pB 0 pb, .slice pE 1 pf] 71)); simpa using h
  have HX : Hid (Below w.heap.size w X) := by show Below _ _ _; rw [← hX]; exact (by repeat (first | exact Below.refl _ _ | assumption | refine below_drewN ?_ _ | refine Below.drew ?_ | refine Below.setCell ?_ (by first | omega | (simp; done) | (simp; omega)) _ | refine Below.alloc ?_ (by first | omega | (simp; done) | (simp; omega)) _))
  have x0 : X.cell? ⟨w.heap.size, 0, none⟩ = some (.bool pm) := by rw [← hX]; simp [go_sem]
  have x1 : X.cell? ⟨w.heap.size, 1, none⟩ = some (.slice pA (dg pn).length pc) := by rw [← hX]; simp [go_sem]
  have x2 : X.cell? ⟨w.heap.size, 2, none⟩ = some (.slice pD (dg pd).length pe) := by rw [← hX]; simp [go_sem]
  have x3 : X.cell? ⟨w.heap.size, 3, none⟩ = some (.bool false) := by rw [← hX]; simp [go_sem]
  have x4 : X.cell? ⟨w.heap.size, 4, none⟩ = some (.slice pB 0 pb) := by rw [← hX]; simp [go_sem]
  have x5 : X.cell? ⟨w.heap.size, 5, none⟩ = some (.slice pE 1 pf) := by rw [← hX]; simp [go_sem]
  have hXs : X.heap.size = w.heap.size + 1 + 1 := by rw [← hX]; simp
  have hx0 : w.heap.size < X.heap.size := by omega
  have hXl : w.heap.size ≤ X.heap.size := by omega
  have hXl1 : w.heap.size + 1 < X.heap.size := by omega
  rw [hX]
  clear hX hXs
  go_region_held3 (fun w' => ∀ o, w'.cell? ⟨w.heap.size, o, none⟩ = X.cell? ⟨w.heap.size, o, none⟩) (first | (with_reducible exact kN) | (intro o; simp only [World.cell?_drew]; done) | (intro o; simp [go_sem, kN]; done))
    (first
      | (go_at_call 49; (with_reducible show Calls _ _ #[Value.agg #[Value.bool false, Value.slice pB 0 pb, Value.slice pE 1 pf]] _ _); refine (HX2.out _ (HX.out.trans ((HB4.out.trans ((show Below w4.heap.size w4 _ from (by (repeat (first | exact Below.refl _ _ | assumption | refine below_drewN ?_ _ | refine Below.drew ?_ | refine Below.setCell ?_ (by first | omega | (simp; done) | (simp; omega)) _ | refine Below.alloc ?_ (by first | omega | (simp; done) | (simp; omega)) _)))).mono hs4)).mono hXl))).mono ?_; intro e w5 hnt; obtain ⟨B5, b5, E5, f5, he, hn5, hd5, hbn⟩ := hnt; subst he; have HN5 := Lib.hid hn5; have HD5 := Lib.hid hd5; have HC5 : Hid (Below w4.heap.size w4 w5) := (show Below w4.heap.size w4 _ from (by (repeat (first | exact Below.refl _ _ | assumption | refine below_drewN ?_ _ | refine Below.drew ?_ | refine Below.setCell ?_ (by first | omega | (simp; done) | (simp; omega)) _ | refine Below.alloc ?_ (by first | omega | (simp; done) | (simp; omega)) _)))).trans (hbn.mono (by first | omega | (simp; done) | (simp; omega))); have HB5 : Hid (Below X.heap.size X w5) := HB4.out.trans (HC5.out.mono hs4); have kN := (fun o => HB5.out.cell (p := ⟨w.heap.size, o, none⟩) hx0); have Z5 := ZX.keep HB5.out; have HZ5 := Lib.hid Z5; obtain ⟨q0, q1, q2, q3, q4, q5, f0, f1, f2, f3, f4, f5', hlt, -⟩ := Z5; clear hn5 hd5 hbn)
      | (go_at_call 49; (with_reducible show Calls _ _ #[Value.agg #[Value.bool pm, Value.slice pA (dg pn).length pc, Value.slice pD (dg pd).length pe]] _ _); refine (HX1.out _ (HX.out.trans ((show Below X.heap.size X _ from (by (repeat (first | exact Below.refl _ _ | assumption | refine below_drewN ?_ _ | refine Below.drew ?_ | refine Below.setCell ?_ (by first | omega | (simp; done) | (simp; omega)) _ | refine Below.alloc ?_ (by first | omega | (simp; done) | (simp; omega)) _)))).mono hXl))).mono ?_; intro e w4 hnt; obtain ⟨A4, c4, D4, d4, he, hn4, hd4, hbn⟩ := hnt; subst he; have HN4 := Lib.hid hn4; have HD4 := Lib.hid hd4; have HB4 : Hid (Below X.heap.size X w4) := (show Below X.heap.size X _ from (by (repeat (first | exact Below.refl _ _ | assumption | refine below_drewN ?_ _ | refine Below.drew ?_ | refine Below.setCell ?_ (by first | omega | (simp; done) | (simp; omega)) _ | refine Below.alloc ?_ (by first | omega | (simp; done) | (simp; omega)) _)))).trans (hbn.mono (by first | omega | (simp; done) | (simp; omega))); have kN := (fun o => HB4.out.cell (p := ⟨w.heap.size, o, none⟩) hx0); have hs4 := HB4.out.size; clear hn4 hd4 hbn))
  have HW : Hid (Below w.heap.size w w5) := HX.out.trans (HB5.out.mono hXl)
  have HNb := Lib.hid (HN4.out.below HC5.out)
  have HDb := Lib.hid (HD4.out.below HC5.out)
  go_wp2_with fail
  refine bodyPost_ret (v := .agg #[.bool r.m, .slice A4 (dg r.n).length c4, .slice D4 (dg r.d).length d4, .bool false, .slice B5 0 b5, .slice E5 1 f5]) ?h1 rfl ?h2
  case h1 => simp [results, Tryz.results20, go_sem, q0, q1, q2, q3, q4, q5]
  case h2 =>
    refine ⟨⟨r, A4, c4, D4, d4, B5, b5, E5, f5⟩, rfl, rfl, ⟨?_, ?_, ?_, ?_⟩, ?_⟩
    · with_reducible exact zv_keeps HZ5.out HNb.out _ _ _ _ _ _
    · with_reducible exact zv_keeps HZ5.out HDb.out _ _ _ _ _ _
    · with_reducible exact zv_keeps HZ5.out HN5.out _ _ _ _ _ _
    · with_reducible exact zv_keeps HZ5.out HD5.out _ _ _ _ _ _
    · with_reducible exact zv_below HW.out (by omega) _ _ _ _ _ _
set_option maxRecDepth 100000 in
set_option maxHeartbeats 8000000 in
theorem vplus_ (u v : VR) (w : World) (hu : u.ok w) (hv : v.ok w) (hlu : RLn 100000 u.r) (hlv : RLn 100000 v.r) : Calls Tryz.prog 92 #[u.val, v.val] w (RealT (u.r.add v.r) w) := by
  obtain ⟨r, hr⟩ : ∃ r, u.r.add v.r = r := ⟨_, rfl⟩
  have H := Lib.hid hu
  have G := Lib.hid hv
  have HX1 : Hid (∀ W, Below w.heap.size w W → Calls Tryz.prog 54 #[u.r.val u.A u.c u.D u.d, v.r.val v.A v.c v.D v.d] W (RatT r W)) := fun W hW => hr ▸ rplusG_ u.r v.r u.A u.D v.A v.D u.c u.d v.c v.d W ⟨H.out.n.below hW, H.out.d.below hW⟩ ⟨G.out.n.below hW, G.out.d.below hW⟩ hlu hlv
  have HX2 : Hid (∀ W, Below w.heap.size w W → Calls Tryz.prog 54 #[.agg #[.bool false, .slice u.B 0 u.b, .slice u.E 1 u.f], .agg #[.bool false, .slice v.B 0 v.b, .slice v.E 1 v.f]] W (ZrT W)) := fun W hW => zplus_ u.B u.E v.B v.E u.b u.f v.b v.f W (H.out.z.below hW) (H.out.o.below hW) (G.out.z.below hW) (G.out.o.below hW)
  rw [hr]
  clear hr hu hv hlu hlv
  obtain ⟨⟨pm, pn, pd⟩, pA, pc, pD, pe, pB, pb, pE, pf⟩ := u
  obtain ⟨⟨qm, qn, qd⟩, qA, qc, qD, qe, qB, qb, qE, qf⟩ := v
  simp only [VR.val, Rat9.val] at HX1 HX2 ⊢
  go_enter Tryz.func92, Tryz.ntmps92
  go_upto_region 1 with fail
  obtain ⟨X, hX⟩ : ∃ X, (((w.alloc (.cells #[.bool pm, .slice pA (dg pn).length pc, .slice pD (dg pd).length pe, .bool false, .slice pB 0 pb, .slice pE 1 pf] 71)).alloc (.cells #[.bool qm, .slice qA (dg qn).length qc, .slice qD (dg qd).length qe, .bool false, .slice qB 0 qb, .slice qE 1 qf] 71)).alloc (.cells #[.bool false, .slice none 0 0, .slice none 0 0, .bool false, .slice none 0 0, .slice none 0 0] 71)) = X := ⟨_, rfl⟩
  have ZX : Zv X (w.heap.size + 1 + 1) := by rw [← hX]; have h := zv_new ((w.alloc (.cells #[.bool pm, .slice pA (dg pn).length pc, .slice pD (dg pd).length pe, .bool false, .slice pB 0 pb, .slice pE 1 pf] 71)).alloc (.cells #[.bool qm, .slice qA (dg qn).length qc, .slice qD (dg qd).length qe, .bool false, .slice qB 0 qb, .slice qE 1 qf] 71)); simpa using h
  have HX : Hid (Below w.heap.size w X) := by show Below _ _ _; rw [← hX]; exact (by repeat (first | exact Below.refl _ _ | assumption | refine below_drewN ?_ _ | refine Below.drew ?_ | refine Below.setCell ?_ (by first | omega | (simp; done) | (simp; omega)) _ | refine Below.alloc ?_ (by first | omega | (simp; done) | (simp; omega)) _))
  have x0 : X.cell? ⟨w.heap.size, 0, none⟩ = some (.bool pm) := by rw [← hX]; simp [go_sem]
  have x1 : X.cell? ⟨w.heap.size, 1, none⟩ = some (.slice pA (dg pn).length pc) := by rw [← hX]; simp [go_sem]
  have x2 : X.cell? ⟨w.heap.size, 2, none⟩ = some (.slice pD (dg pd).length pe) := by rw [← hX]; simp [go_sem]
  have x3 : X.cell? ⟨w.heap.size, 3, none⟩ = some (.bool false) := by rw [← hX]; simp [go_sem]
  have x4 : X.cell? ⟨w.heap.size, 4, none⟩ = some (.slice pB 0 pb) := by rw [← hX]; simp [go_sem]
  have x5 : X.cell? ⟨w.heap.size, 5, none⟩ = some (.slice pE 1 pf) := by rw [← hX]; simp [go_sem]
  have y0 : X.cell? ⟨w.heap.size + 1, 0, none⟩ = some (.bool qm) := by rw [← hX]; simp [go_sem]
  have y1 : X.cell? ⟨w.heap.size + 1, 1, none⟩ = some (.slice qA (dg qn).length qc) := by rw [← hX]; simp [go_sem]
  have y2 : X.cell? ⟨w.heap.size + 1, 2, none⟩ = some (.slice qD (dg qd).length qe) := by rw [← hX]; simp [go_sem]
  have y3 : X.cell? ⟨w.heap.size + 1, 3, none⟩ = some (.bool false) := by rw [← hX]; simp [go_sem]
  have y4 : X.cell? ⟨w.heap.size + 1, 4, none⟩ = some (.slice qB 0 qb) := by rw [← hX]; simp [go_sem]
  have y5 : X.cell? ⟨w.heap.size + 1, 5, none⟩ = some (.slice qE 1 qf) := by rw [← hX]; simp [go_sem]
  have hXs : X.heap.size = w.heap.size + 1 + 1 + 1 := by rw [← hX]; simp
  have hx0 : w.heap.size < X.heap.size := by omega
  have hx1 : w.heap.size + 1 < X.heap.size := by omega
  have hXl : w.heap.size ≤ X.heap.size := by omega
  have hXl1 : w.heap.size + 1 + 1 < X.heap.size := by omega
  rw [hX]
  clear hX hXs
  go_region_held3 (fun w' => (∀ o, w'.cell? ⟨w.heap.size, o, none⟩ = X.cell? ⟨w.heap.size, o, none⟩) ∧ (∀ o, w'.cell? ⟨w.heap.size + 1, o, none⟩ = X.cell? ⟨w.heap.size + 1, o, none⟩)) (first | (with_reducible exact kN) | (refine ⟨fun o => ?_, fun o => ?_⟩ <;> (simp only [World.cell?_drew]; done)) | (refine ⟨fun o => ?_, fun o => ?_⟩ <;> (simp [go_sem, kN1, kN2]; done)))
    (first
      | (go_at_call 54; (with_reducible show Calls _ _ #[Value.agg #[Value.bool false, Value.slice pB 0 pb, Value.slice pE 1 pf], Value.agg #[Value.bool false, Value.slice qB 0 qb, Value.slice qE 1 qf]] _ _); refine (HX2.out _ (HX.out.trans ((HB4.out.trans ((show Below w4.heap.size w4 _ from (by (repeat (first | exact Below.refl _ _ | assumption | refine below_drewN ?_ _ | refine Below.drew ?_ | refine Below.setCell ?_ (by first | omega | (simp; done) | (simp; omega)) _ | refine Below.alloc ?_ (by first | omega | (simp; done) | (simp; omega)) _)))).mono hs4)).mono hXl))).mono ?_; intro e w5 hnt; obtain ⟨B5, b5, E5, f5, he, hn5, hd5, hbn⟩ := hnt; subst he; have HN5 := Lib.hid hn5; have HD5 := Lib.hid hd5; have HC5 : Hid (Below w4.heap.size w4 w5) := (show Below w4.heap.size w4 _ from (by (repeat (first | exact Below.refl _ _ | assumption | refine below_drewN ?_ _ | refine Below.drew ?_ | refine Below.setCell ?_ (by first | omega | (simp; done) | (simp; omega)) _ | refine Below.alloc ?_ (by first | omega | (simp; done) | (simp; omega)) _)))).trans (hbn.mono (by first | omega | (simp; done) | (simp; omega))); have HB5 : Hid (Below X.heap.size X w5) := HB4.out.trans (HC5.out.mono hs4); have kN := And.intro (fun o => HB5.out.cell (p := ⟨w.heap.size, o, none⟩) hx0) (fun o => HB5.out.cell (p := ⟨w.heap.size + 1, o, none⟩) hx1); have kN1 := kN.1; have kN2 := kN.2; have Z5 := ZX.keep HB5.out; have HZ5 := Lib.hid Z5; obtain ⟨q0, q1, q2, q3, q4, q5, f0, f1, f2, f3, f4, f5', hlt, -⟩ := Z5; clear hn5 hd5 hbn)
      | (go_at_call 54; (with_reducible show Calls _ _ #[Value.agg #[Value.bool pm, Value.slice pA (dg pn).length pc, Value.slice pD (dg pd).length pe], Value.agg #[Value.bool qm, Value.slice qA (dg qn).length qc, Value.slice qD (dg qd).length qe]] _ _); refine (HX1.out _ (HX.out.trans ((show Below X.heap.size X _ from (by (repeat (first | exact Below.refl _ _ | assumption | refine below_drewN ?_ _ | refine Below.drew ?_ | refine Below.setCell ?_ (by first | omega | (simp; done) | (simp; omega)) _ | refine Below.alloc ?_ (by first | omega | (simp; done) | (simp; omega)) _)))).mono hXl))).mono ?_; intro e w4 hnt; obtain ⟨A4, c4, D4, d4, he, hn4, hd4, hbn⟩ := hnt; subst he; have HN4 := Lib.hid hn4; have HD4 := Lib.hid hd4; have HB4 : Hid (Below X.heap.size X w4) := (show Below X.heap.size X _ from (by (repeat (first | exact Below.refl _ _ | assumption | refine below_drewN ?_ _ | refine Below.drew ?_ | refine Below.setCell ?_ (by first | omega | (simp; done) | (simp; omega)) _ | refine Below.alloc ?_ (by first | omega | (simp; done) | (simp; omega)) _)))).trans (hbn.mono (by first | omega | (simp; done) | (simp; omega))); have kN := And.intro (fun o => HB4.out.cell (p := ⟨w.heap.size, o, none⟩) hx0) (fun o => HB4.out.cell (p := ⟨w.heap.size + 1, o, none⟩) hx1); have kN1 := kN.1; have kN2 := kN.2; have hs4 := HB4.out.size; clear hn4 hd4 hbn))
  have HW : Hid (Below w.heap.size w w5) := HX.out.trans (HB5.out.mono hXl)
  have HNb := Lib.hid (HN4.out.below HC5.out)
  have HDb := Lib.hid (HD4.out.below HC5.out)
  go_wp2_with fail
  refine bodyPost_ret (v := .agg #[.bool r.m, .slice A4 (dg r.n).length c4, .slice D4 (dg r.d).length d4, .bool false, .slice B5 0 b5, .slice E5 1 f5]) ?h1 rfl ?h2
  case h1 => simp [results, Tryz.results92, go_sem, q0, q1, q2, q3, q4, q5]
  case h2 =>
    refine ⟨⟨r, A4, c4, D4, d4, B5, b5, E5, f5⟩, rfl, rfl, ⟨?_, ?_, ?_, ?_⟩, ?_⟩
    · with_reducible exact zv_keeps HZ5.out HNb.out _ _ _ _ _ _
    · with_reducible exact zv_keeps HZ5.out HDb.out _ _ _ _ _ _
    · with_reducible exact zv_keeps HZ5.out HN5.out _ _ _ _ _ _
    · with_reducible exact zv_keeps HZ5.out HD5.out _ _ _ _ _ _
    · with_reducible exact zv_below HW.out (by omega) _ _ _ _ _ _
end Go.Proofs.YtpphnnijnnfngaaGreatDoor

/-
  less of real values; sure, both; Sub, Neg.
-/
namespace Go.Proofs.YtpphnnijnnfngaaGreatDoor
open Go.RowKit Al Nat9

set_option maxRecDepth 100000 in
set_option maxHeartbeats 8000000 in
theorem vless_ (u v : VR) (w : World) (hu : u.ok w) (hv : v.ok w) (hlu : RLn 100000 u.r) (hlv : RLn 100000 v.r) : Calls Tryz.prog 63 #[u.val, v.val] w (RealT (u.r.add v.r.neg) w) := by
  obtain ⟨nr, hnr⟩ : ∃ r, v.r.neg = r := ⟨_, rfl⟩
  have hln : RLn 100000 nr := by rw [← hnr]; exact hlv.neg
  rw [hnr]
  obtain ⟨r, hr⟩ : ∃ r, u.r.add nr = r := ⟨_, rfl⟩
  have H := Lib.hid hu
  have G := Lib.hid hv
  have HX1 : Hid (∀ W, Below w.heap.size w W → Calls Tryz.prog 20 #[v.val] W (RealT nr W)) := fun W hW => hnr ▸ vneg_ v W (G.out.below hW)
  have HX2 : Hid (∀ W (z : VR), Below w.heap.size w W → z.r = nr → z.ok W → Calls Tryz.prog 92 #[u.val, z.val] W (RealT r W)) := fun W z hW hz hzo => by
    have h := vplus_ u z W (H.out.below hW) hzo hlu (by rw [hz]; exact hln)
    rw [hz, hr] at h
    exact h
  rw [hr]
  clear hr hnr hu hv hlu hlv hln
  obtain ⟨⟨pm, pn, pd⟩, pA, pc, pD, pe, pB, pb, pE, pf⟩ := u
  obtain ⟨⟨qm, qn, qd⟩, qA, qc, qD, qe, qB, qb, qE, qf⟩ := v
  simp only [VR.val] at HX1 HX2 ⊢
  go_enter Tryz.func63, Tryz.ntmps63
  go_upto_region 1 with fail
  obtain ⟨X, hX⟩ : ∃ X, (((w.alloc (.cells #[.bool pm, .slice pA (dg pn).length pc, .slice pD (dg pd).length pe, .bool false, .slice pB 0 pb, .slice pE 1 pf] 71)).alloc (.cells #[.bool qm, .slice qA (dg qn).length qc, .slice qD (dg qd).length qe, .bool false, .slice qB 0 qb, .slice qE 1 qf] 71)).alloc (.cells #[.bool false, .slice none 0 0, .slice none 0 0, .bool false, .slice none 0 0, .slice none 0 0] 71)) = X := ⟨_, rfl⟩
  have ZX : Zv X (w.heap.size + 1 + 1) := by rw [← hX]; have h := zv_new ((w.alloc (.cells #[.bool pm, .slice pA (dg pn).length pc, .slice pD (dg pd).length pe, .bool false, .slice pB 0 pb, .slice pE 1 pf] 71)).alloc (.cells #[.bool qm, .slice qA (dg qn).length qc, .slice qD (dg qd).length qe, .bool false, .slice qB 0 qb, .slice qE 1 qf] 71)); simpa using h
  have HX : Hid (Below w.heap.size w X) := by show Below _ _ _; rw [← hX]; exact (by repeat (first | exact Below.refl _ _ | assumption | refine below_drewN ?_ _ | refine Below.drew ?_ | refine Below.setCell ?_ (by first | omega | (simp; done) | (simp; omega)) _ | refine Below.alloc ?_ (by first | omega | (simp; done) | (simp; omega)) _))
  have x0 : X.cell? ⟨w.heap.size, 0, none⟩ = some (.bool pm) := by rw [← hX]; simp [go_sem]
  have x1 : X.cell? ⟨w.heap.size, 1, none⟩ = some (.slice pA (dg pn).length pc) := by rw [← hX]; simp [go_sem]
  have x2 : X.cell? ⟨w.heap.size, 2, none⟩ = some (.slice pD (dg pd).length pe) := by rw [← hX]; simp [go_sem]
  have x3 : X.cell? ⟨w.heap.size, 3, none⟩ = some (.bool false) := by rw [← hX]; simp [go_sem]
  have x4 : X.cell? ⟨w.heap.size, 4, none⟩ = some (.slice pB 0 pb) := by rw [← hX]; simp [go_sem]
  have x5 : X.cell? ⟨w.heap.size, 5, none⟩ = some (.slice pE 1 pf) := by rw [← hX]; simp [go_sem]
  have y0 : X.cell? ⟨w.heap.size + 1, 0, none⟩ = some (.bool qm) := by rw [← hX]; simp [go_sem]
  have y1 : X.cell? ⟨w.heap.size + 1, 1, none⟩ = some (.slice qA (dg qn).length qc) := by rw [← hX]; simp [go_sem]
  have y2 : X.cell? ⟨w.heap.size + 1, 2, none⟩ = some (.slice qD (dg qd).length qe) := by rw [← hX]; simp [go_sem]
  have y3 : X.cell? ⟨w.heap.size + 1, 3, none⟩ = some (.bool false) := by rw [← hX]; simp [go_sem]
  have y4 : X.cell? ⟨w.heap.size + 1, 4, none⟩ = some (.slice qB 0 qb) := by rw [← hX]; simp [go_sem]
  have y5 : X.cell? ⟨w.heap.size + 1, 5, none⟩ = some (.slice qE 1 qf) := by rw [← hX]; simp [go_sem]
  have hXs : X.heap.size = w.heap.size + 1 + 1 + 1 := by rw [← hX]; simp
  have hx0 : w.heap.size < X.heap.size := by omega
  have hx1 : w.heap.size + 1 < X.heap.size := by omega
  have hXl : w.heap.size ≤ X.heap.size := by omega
  have hXl1 : w.heap.size + 1 + 1 < X.heap.size := by omega
  rw [hX]
  clear hX hXs
  go_region_held3 (fun w' => (∀ o, w'.cell? ⟨w.heap.size, o, none⟩ = X.cell? ⟨w.heap.size, o, none⟩) ∧ (∀ o, w'.cell? ⟨w.heap.size + 1, o, none⟩ = X.cell? ⟨w.heap.size + 1, o, none⟩)) (first | (with_reducible exact kN) | (refine ⟨fun o => ?_, fun o => ?_⟩ <;> (simp only [World.cell?_drew]; done)) | (refine ⟨fun o => ?_, fun o => ?_⟩ <;> (simp [go_sem, kN1, kN2]; done)))
    (first
      | (go_at_call 92; refine (HX2.out _ _ (HX.out.trans ((HB4.out.trans ((show Below w4.heap.size w4 _ from (by (repeat (first | exact Below.refl _ _ | assumption | refine below_drewN ?_ _ | refine Below.drew ?_ | refine Below.setCell ?_ (by first | omega | (simp; done) | (simp; omega)) _ | refine Below.alloc ?_ (by first | omega | (simp; done) | (simp; omega)) _)))).mono hs4)).mono hXl)) HZR.out (HZ4.out.below (show Below w4.heap.size w4 _ from (by (repeat (first | exact Below.refl _ _ | assumption | refine below_drewN ?_ _ | refine Below.drew ?_ | refine Below.setCell ?_ (by first | omega | (simp; done) | (simp; omega)) _ | refine Below.alloc ?_ (by first | omega | (simp; done) | (simp; omega)) _)))))).mono ?_; intro e w5 hnt; obtain ⟨v5, hv5, he, hok5, hbn⟩ := hnt; subst he; obtain ⟨⟨sm, sn, sd⟩, sA, sc, sD, se, sB, sb, sE, sf⟩ := v5; have HV5 := Lib.hid hv5; have HOK5 := Lib.hid hok5; have HC5 : Hid (Below w4.heap.size w4 w5) := (show Below w4.heap.size w4 _ from (by (repeat (first | exact Below.refl _ _ | assumption | refine below_drewN ?_ _ | refine Below.drew ?_ | refine Below.setCell ?_ (by first | omega | (simp; done) | (simp; omega)) _ | refine Below.alloc ?_ (by first | omega | (simp; done) | (simp; omega)) _)))).trans (hbn.mono (by first | omega | (simp; done) | (simp; omega))); have HB5 : Hid (Below X.heap.size X w5) := HB4.out.trans (HC5.out.mono hs4); have kN := And.intro (fun o => HB5.out.cell (p := ⟨w.heap.size, o, none⟩) hx0) (fun o => HB5.out.cell (p := ⟨w.heap.size + 1, o, none⟩) hx1); have kN1 := kN.1; have kN2 := kN.2; have Z5 := ZX.keep HB5.out; have HZ5 := Lib.hid Z5; obtain ⟨q0, q1, q2, q3, q4, q5, f0, f1, f2, f3, f4, f5', hlt, -⟩ := Z5; clear hv5 hok5 hbn)
      | (go_at_call 20; refine (HX1.out _ (HX.out.trans ((show Below X.heap.size X _ from (by (repeat (first | exact Below.refl _ _ | assumption | refine below_drewN ?_ _ | refine Below.drew ?_ | refine Below.setCell ?_ (by first | omega | (simp; done) | (simp; omega)) _ | refine Below.alloc ?_ (by first | omega | (simp; done) | (simp; omega)) _)))).mono hXl))).mono ?_; intro e w4 hnt; obtain ⟨v4, hv4, he, hok4, hbn⟩ := hnt; subst he; have HZR := Lib.hid hv4; have HZ4 := Lib.hid hok4; have HB4 : Hid (Below X.heap.size X w4) := (show Below X.heap.size X _ from (by (repeat (first | exact Below.refl _ _ | assumption | refine below_drewN ?_ _ | refine Below.drew ?_ | refine Below.setCell ?_ (by first | omega | (simp; done) | (simp; omega)) _ | refine Below.alloc ?_ (by first | omega | (simp; done) | (simp; omega)) _)))).trans (hbn.mono (by first | omega | (simp; done) | (simp; omega))); have kN := And.intro (fun o => HB4.out.cell (p := ⟨w.heap.size, o, none⟩) hx0) (fun o => HB4.out.cell (p := ⟨w.heap.size + 1, o, none⟩) hx1); have kN1 := kN.1; have kN2 := kN.2; have hs4 := HB4.out.size; clear hv4 hok4 hbn))
  have HW : Hid (Below w.heap.size w w5) := HX.out.trans (HB5.out.mono hXl)
  go_wp2_with fail
  refine bodyPost_ret (v := .agg #[.bool sm, .slice sA (dg sn).length sc, .slice sD (dg sd).length se, .bool false, .slice sB 0 sb, .slice sE 1 sf]) ?h1 rfl ?h2
  case h1 => simp [results, Tryz.results63, go_sem, q0, q1, q2, q3, q4, q5]
  case h2 =>
    refine ⟨⟨⟨sm, sn, sd⟩, sA, sc, sD, se, sB, sb, sE, sf⟩, HV5.out, rfl, ⟨?_, ?_, ?_, ?_⟩, ?_⟩
    · with_reducible exact zv_keeps HZ5.out HOK5.out.n _ _ _ _ _ _
    · with_reducible exact zv_keeps HZ5.out HOK5.out.d _ _ _ _ _ _
    · with_reducible exact zv_keeps HZ5.out HOK5.out.z _ _ _ _ _ _
    · with_reducible exact zv_keeps HZ5.out HOK5.out.o _ _ _ _ _ _
    · with_reducible exact zv_below HW.out (by omega) _ _ _ _ _ _
set_option maxRecDepth 100000 in
set_option maxHeartbeats 8000000 in
theorem sure_ (w : World) : Calls Tryz.prog 62 #[.func (.func 63) #[] #[]] w fun e w' => e = .returned (.func (.func 91) #[] #[.pointer (some ⟨w.heap.size, 0, none⟩)]) ∧ w' = w.alloc (.cells #[.func (.func 63) #[] #[]] 128) := by
  go_enter Tryz.func62, Tryz.ntmps62
  go_wp2_with fail
  go_ret
  exact ⟨rfl, rfl⟩
/-- A real value and no error are handed back. -/
def SrT (x : Rat9) (w : World) (e : Ending) (w' : World) : Prop := ∃ v : VR, v.r = x ∧ e = .returned (.tuple #[v.val, .int .i64 0]) ∧ v.ok w' ∧ Below w.heap.size w w'
set_option maxRecDepth 100000 in
set_option maxHeartbeats 8000000 in
theorem sure1_ (u v : VR) (fb : Nat) (w : World) (hf : w.cell? ⟨fb, 0, none⟩ = some (.func (.func 63) #[] #[])) (hu : u.ok w) (hv : v.ok w) (hlu : RLn 100000 u.r) (hlv : RLn 100000 v.r) : Calls Tryz.prog 91 #[u.val, v.val, .pointer (some ⟨fb, 0, none⟩)] w (SrT (u.r.add v.r.neg) w) := by
  obtain ⟨r, hr⟩ : ∃ r, u.r.add v.r.neg = r := ⟨_, rfl⟩
  have H := Lib.hid hu
  have G := Lib.hid hv
  have HX2 : Hid (∀ W, Below w.heap.size w W → Calls Tryz.prog 63 #[u.val, v.val] W (RealT r W)) := fun W hW => hr ▸ vless_ u v W (H.out.below hW) (G.out.below hW) hlu hlv
  have hfl := cell_ltU hf
  rw [hr]
  clear hr hu hv hlu hlv
  obtain ⟨⟨pm, pn, pd⟩, pA, pc, pD, pe, pB, pb, pE, pf⟩ := u
  obtain ⟨⟨qm, qn, qd⟩, qA, qc, qD, qe, qB, qb, qE, qf⟩ := v
  simp only [VR.val] at HX2 ⊢
  go_enter Tryz.func91, Tryz.ntmps91
  go_upto_region 1 with fail
  obtain ⟨X, hX⟩ : ∃ X, (((w.alloc (.cells #[.bool pm, .slice pA (dg pn).length pc, .slice pD (dg pd).length pe, .bool false, .slice pB 0 pb, .slice pE 1 pf] 71)).alloc (.cells #[.bool qm, .slice qA (dg qn).length qc, .slice qD (dg qd).length qe, .bool false, .slice qB 0 qb, .slice qE 1 qf] 71)).alloc (.cells #[.bool false, .slice none 0 0, .slice none 0 0, .bool false, .slice none 0 0, .slice none 0 0] 71)) = X := ⟨_, rfl⟩
  have ZX : Zv X (w.heap.size + 1 + 1) := by rw [← hX]; have h := zv_new ((w.alloc (.cells #[.bool pm, .slice pA (dg pn).length pc, .slice pD (dg pd).length pe, .bool false, .slice pB 0 pb, .slice pE 1 pf] 71)).alloc (.cells #[.bool qm, .slice qA (dg qn).length qc, .slice qD (dg qd).length qe, .bool false, .slice qB 0 qb, .slice qE 1 qf] 71)); simpa using h
  have HX : Hid (Below w.heap.size w X) := by show Below _ _ _; rw [← hX]; exact (by repeat (first | exact Below.refl _ _ | assumption | refine below_drewN ?_ _ | refine Below.drew ?_ | refine Below.setCell ?_ (by first | omega | (simp; done) | (simp; omega)) _ | refine Below.alloc ?_ (by first | omega | (simp; done) | (simp; omega)) _))
  have xf : X.cell? ⟨fb, 0, none⟩ = some (.func (.func 63) #[] #[]) := (HX.out.cell (p := ⟨fb, 0, none⟩) hfl).trans hf
  have x0 : X.cell? ⟨w.heap.size, 0, none⟩ = some (.bool pm) := by rw [← hX]; simp [go_sem]
  have x1 : X.cell? ⟨w.heap.size, 1, none⟩ = some (.slice pA (dg pn).length pc) := by rw [← hX]; simp [go_sem]
  have x2 : X.cell? ⟨w.heap.size, 2, none⟩ = some (.slice pD (dg pd).length pe) := by rw [← hX]; simp [go_sem]
  have x3 : X.cell? ⟨w.heap.size, 3, none⟩ = some (.bool false) := by rw [← hX]; simp [go_sem]
  have x4 : X.cell? ⟨w.heap.size, 4, none⟩ = some (.slice pB 0 pb) := by rw [← hX]; simp [go_sem]
  have x5 : X.cell? ⟨w.heap.size, 5, none⟩ = some (.slice pE 1 pf) := by rw [← hX]; simp [go_sem]
  have y0 : X.cell? ⟨w.heap.size + 1, 0, none⟩ = some (.bool qm) := by rw [← hX]; simp [go_sem]
  have y1 : X.cell? ⟨w.heap.size + 1, 1, none⟩ = some (.slice qA (dg qn).length qc) := by rw [← hX]; simp [go_sem]
  have y2 : X.cell? ⟨w.heap.size + 1, 2, none⟩ = some (.slice qD (dg qd).length qe) := by rw [← hX]; simp [go_sem]
  have y3 : X.cell? ⟨w.heap.size + 1, 3, none⟩ = some (.bool false) := by rw [← hX]; simp [go_sem]
  have y4 : X.cell? ⟨w.heap.size + 1, 4, none⟩ = some (.slice qB 0 qb) := by rw [← hX]; simp [go_sem]
  have y5 : X.cell? ⟨w.heap.size + 1, 5, none⟩ = some (.slice qE 1 qf) := by rw [← hX]; simp [go_sem]
  have hXs : X.heap.size = w.heap.size + 1 + 1 + 1 := by rw [← hX]; simp
  have hx0 : w.heap.size < X.heap.size := by omega
  have hx1 : w.heap.size + 1 < X.heap.size := by omega
  have hXl : w.heap.size ≤ X.heap.size := by omega
  have hXl1 : w.heap.size + 1 + 1 < X.heap.size := by omega
  have hfX : fb < X.heap.size := by omega
  rw [hX]
  clear hX hXs hf
  go_wp2_with fail
  refine (HX2.out _ HX.out).mono ?_
  rintro e w5 ⟨v5, hv5, rfl, hok5, hbn⟩
  obtain ⟨⟨sm, sn, sd⟩, sA, sc, sD, se, sB, sb, sE, sf⟩ := v5
  have HV5 := Lib.hid hv5
  have HOK5 := Lib.hid hok5
  have HB5 : Hid (Below X.heap.size X w5) := hbn
  have Z5 := ZX.keep HB5.out
  have HZ5 := Lib.hid Z5
  obtain ⟨q0, q1, q2, q3, q4, q5, f0, f1, f2, f3, f4, f5', hlt, -⟩ := Z5
  have HW : Hid (Below w.heap.size w w5) := HX.out.trans (HB5.out.mono hXl)
  clear hv5 hok5 hbn
  go_wp2_with fail
  refine bodyPost_ret (v := .tuple #[.agg #[.bool sm, .slice sA (dg sn).length sc, .slice sD (dg sd).length se, .bool false, .slice sB 0 sb, .slice sE 1 sf], .int .i64 0]) ?h1 rfl ?h2
  case h1 => simp [results, Tryz.results91, go_sem, q0, q1, q2, q3, q4, q5]
  case h2 =>
    refine ⟨⟨⟨sm, sn, sd⟩, sA, sc, sD, se, sB, sb, sE, sf⟩, HV5.out, rfl, ⟨?_, ?_, ?_, ?_⟩, ?_⟩
    · with_reducible exact zv_keeps HZ5.out HOK5.out.n _ _ _ _ _ _
    · with_reducible exact zv_keeps HZ5.out HOK5.out.d _ _ _ _ _ _
    · with_reducible exact zv_keeps HZ5.out HOK5.out.z _ _ _ _ _ _
    · with_reducible exact zv_keeps HZ5.out HOK5.out.o _ _ _ _ _ _
    · with_reducible exact zv_below HW.out (by omega) _ _ _ _ _ _
set_option maxRecDepth 100000 in
set_option maxHeartbeats 8000000 in
theorem both_ (s t : ByteArray) (a b r : Rat9) (fb : Nat) (ha : GetG s a) (hb : GetG t b) (hr : a.add b.neg = r) (hnb : bigB r = false) (w : World) (hf : w.cell? ⟨fb, 0, none⟩ = some (.func (.func 63) #[] #[])) (hM : RdN w) : Calls Tryz.prog 61 #[.string s, .string t, .func (.func 91) #[] #[.pointer (some ⟨fb, 0, none⟩)]] w fun e w' => e = .returned (.tuple #[.string (bT (txR r)), .int .i64 0]) ∧ Below w.heap.size w w' := by
  have HM := Lib.hid hM
  have hfl := cell_ltU hf
  have hla : RLn 100000 a := ha.ln.more (by omega)
  have hlb : RLn 100000 b := hb.ln.more (by omega)
  have hlr : RLn 200000 r := by rw [← hr]; exact (ha.ln.add hb.ln.neg (by omega)).more (by omega)
  have HS : Hid (∀ W (u v : VR), Below w.heap.size w W → u.r = a → v.r = b → u.ok W → v.ok W → Calls Tryz.prog 91 #[u.val, v.val, .pointer (some ⟨fb, 0, none⟩)] W (SrT r W)) := fun W u v hW e1 e2 h1 h2 => by
    have h := sure1_ u v fb W ((hW.cell (p := ⟨fb, 0, none⟩) hfl).trans hf) h1 h2 (by rw [e1]; exact hla) (by rw [e2]; exact hlb)
    rw [e1, e2, hr] at h
    exact h
  have HPT : Hid (∀ W (v : VR), v.r = r → v.ok W → Tab W → Calls Tryz.prog 48 #[v.val] W fun e w' => e = .returned (.tuple #[.string (bT (txR r)), .int .i64 0]) ∧ Below W.heap.size W w') := fun W v hv hW hTb => by
    have h := putR_ v 200000 (by rw [hv]; exact hlr) (by omega) (by rw [hv]; exact hnb) W hW hTb
    rw [hv] at h
    exact h
  have HG1 : Hid (∀ W, RdN W → Calls Tryz.prog 47 #[.string s] W (VabT a W)) := fun W hW => getR_ s a W hW ha
  have HG2 : Hid (∀ W, RdN W → Calls Tryz.prog 47 #[.string t] W (VabT b W)) := fun W hW => getR_ t b W hW hb
  clear hM ha hb hf hla hlb hlr hr hnb
  go_enter Tryz.func61, Tryz.ntmps61
  go_wp2_with fail
  refine (HG1.out _ HM.out).mono ?_
  rintro e w1 ⟨u, hu, rfl, hok, hb⟩
  have HU := Lib.hid hu
  have HO := Lib.hid hok
  have HW1 := Lib.hid hb
  have hz1 := hb.size
  clear hu hok hb
  obtain ⟨⟨pm, pn, pd⟩, pA, pc, pD, pe, pB, pb, pE, pf⟩ := u
  go_wp2_with fail
  refine (HG2.out _ (HM.out.below (show Below w.heap.size w _ from (by repeat (first | exact Below.refl _ _ | exact (HW1).out | refine below_drewN ?_ _ | refine Below.drew ?_ | refine Below.setCell ?_ (by first | omega | (simp; done) | (simp; omega)) _ | refine Below.alloc ?_ (by first | omega | (simp; done) | (simp; omega)) _))) (Nat.le_refl _))).mono ?_
  rintro e w2 ⟨v, hv, rfl, hok, hb⟩
  have HV := Lib.hid hv
  have HQ := Lib.hid hok
  obtain ⟨hc2, hf2⟩ := bcell hb
  have HW2 := Lib.hid hb
  have hz2 := hb.size
  clear hv hok hb
  obtain ⟨⟨qm, qn, qd⟩, qA, qc, qD, qe, qB, qb, qE, qf⟩ := v
  go_upto_region 7 with fail
  obtain ⟨W2, hW2⟩ : ∃ W2, (w2.alloc (.cells #[.bool qm, .slice qA (dg qn).length qc, .slice qD (dg qd).length qe, .bool false, .slice qB 0 qb, .slice qE 1 qf] 71)) = W2 := ⟨_, rfl⟩
  have hz2' : w1.heap.size < w2.heap.size := by simp at hz2; omega
  have HX : Hid (Below w2.heap.size w2 W2) := by show Below _ _ _; rw [← hW2]; exact (by repeat (first | exact Below.refl _ _ | assumption | refine below_drewN ?_ _ | refine Below.drew ?_ | refine Below.setCell ?_ (by first | omega | (simp; done) | (simp; omega)) _ | refine Below.alloc ?_ (by first | omega | (simp; done) | (simp; omega)) _))
  have H12 : Hid (Below w1.heap.size w1 W2) := (show Below w1.heap.size w1 _ from (Below.refl _ _).alloc (Nat.le_refl _) _).trans ((HW2.out.trans (HX.out.mono HW2.out.size)).mono (by simp))
  have hX2 : w2.heap.size + 1 ≤ W2.heap.size := by rw [← hW2]; simp
  have g1 : w1.heap.size < W2.heap.size := by omega
  have g2 : w2.heap.size < W2.heap.size := by omega
  have x0 : W2.cell? ⟨w1.heap.size, 0, none⟩ = some (.bool pm) := (HX.out.cell (p := ⟨w1.heap.size, 0, none⟩) hz2').trans ((hc2 _ 0 (by simp)).trans (by simp [go_sem]))
  have x1 : W2.cell? ⟨w1.heap.size, 1, none⟩ = some (.slice pA (dg pn).length pc) := (HX.out.cell (p := ⟨w1.heap.size, 1, none⟩) hz2').trans ((hc2 _ 1 (by simp)).trans (by simp [go_sem]))
  have x2 : W2.cell? ⟨w1.heap.size, 2, none⟩ = some (.slice pD (dg pd).length pe) := (HX.out.cell (p := ⟨w1.heap.size, 2, none⟩) hz2').trans ((hc2 _ 2 (by simp)).trans (by simp [go_sem]))
  have x3 : W2.cell? ⟨w1.heap.size, 3, none⟩ = some (.bool false) := (HX.out.cell (p := ⟨w1.heap.size, 3, none⟩) hz2').trans ((hc2 _ 3 (by simp)).trans (by simp [go_sem]))
  have x4 : W2.cell? ⟨w1.heap.size, 4, none⟩ = some (.slice pB 0 pb) := (HX.out.cell (p := ⟨w1.heap.size, 4, none⟩) hz2').trans ((hc2 _ 4 (by simp)).trans (by simp [go_sem]))
  have x5 : W2.cell? ⟨w1.heap.size, 5, none⟩ = some (.slice pE 1 pf) := (HX.out.cell (p := ⟨w1.heap.size, 5, none⟩) hz2').trans ((hc2 _ 5 (by simp)).trans (by simp [go_sem]))
  have y0 : W2.cell? ⟨w2.heap.size, 0, none⟩ = some (.bool qm) := by rw [← hW2]; simp [go_sem]
  have y1 : W2.cell? ⟨w2.heap.size, 1, none⟩ = some (.slice qA (dg qn).length qc) := by rw [← hW2]; simp [go_sem]
  have y2 : W2.cell? ⟨w2.heap.size, 2, none⟩ = some (.slice qD (dg qd).length qe) := by rw [← hW2]; simp [go_sem]
  have y3 : W2.cell? ⟨w2.heap.size, 3, none⟩ = some (.bool false) := by rw [← hW2]; simp [go_sem]
  have y4 : W2.cell? ⟨w2.heap.size, 4, none⟩ = some (.slice qB 0 qb) := by rw [← hW2]; simp [go_sem]
  have y5 : W2.cell? ⟨w2.heap.size, 5, none⟩ = some (.slice qE 1 qf) := by rw [← hW2]; simp [go_sem]
  rw [hW2]
  have HOU := Lib.hid (HO.out.below H12.out)
  have HOV := Lib.hid (HQ.out.below HX.out)
  have HWW : Hid (Below w.heap.size w W2) := HW1.out.trans (H12.out.mono hz1)
  have hzw : w.heap.size ≤ W2.heap.size := HWW.out.size
  clear hW2 hc2 hf2 HO HQ
  go_wp2_with fail
  refine (HS.out W2 ⟨⟨pm, pn, pd⟩, pA, pc, pD, pe, pB, pb, pE, pf⟩ ⟨⟨qm, qn, qd⟩, qA, qc, qD, qe, qB, qb, qE, qf⟩ HWW.out HU.out HV.out HOU.out HOV.out).mono ?_
  rintro e w5 ⟨v5, hv5, rfl, hok5, hbn⟩
  obtain ⟨⟨sm, sn, sd⟩, sA, sc, sD, se, sB, sb, sE, sf⟩ := v5
  have HV5 := Lib.hid hv5
  have HW5 : Hid (Below w.heap.size w w5) := HWW.out.trans (hbn.mono hzw)
  have hz5 : w.heap.size ≤ w5.heap.size := HW5.out.size
  obtain ⟨X5, hX5⟩ : ∃ X5, w5.alloc (.cells #[.bool sm, .slice sA (dg sn).length sc, .slice sD (dg sd).length se, .bool false, .slice sB 0 sb, .slice sE 1 sf] 71) = X5 := ⟨_, rfl⟩
  have HXX : Hid (Below w5.heap.size w5 X5) := by show Below _ _ _; rw [← hX5]; exact (Below.refl _ _).alloc (Nat.le_refl _) _
  have HO5 := Lib.hid (hok5.below HXX.out)
  have HT5 : Hid (Tab X5) := (HM.out.below (HW5.out.trans (HXX.out.mono hz5)) (Nat.le_refl _)).t
  have z0 : X5.cell? ⟨w5.heap.size, 0, none⟩ = some (.bool sm) := by rw [← hX5]; simp [go_sem]
  have z1 : X5.cell? ⟨w5.heap.size, 1, none⟩ = some (.slice sA (dg sn).length sc) := by rw [← hX5]; simp [go_sem]
  have z2 : X5.cell? ⟨w5.heap.size, 2, none⟩ = some (.slice sD (dg sd).length se) := by rw [← hX5]; simp [go_sem]
  have z3 : X5.cell? ⟨w5.heap.size, 3, none⟩ = some (.bool false) := by rw [← hX5]; simp [go_sem]
  have z4 : X5.cell? ⟨w5.heap.size, 4, none⟩ = some (.slice sB 0 sb) := by rw [← hX5]; simp [go_sem]
  have z5 : X5.cell? ⟨w5.heap.size, 5, none⟩ = some (.slice sE 1 sf) := by rw [← hX5]; simp [go_sem]
  have z6 : w5.heap.size < X5.heap.size := by rw [← hX5]; simp
  clear hv5 hok5 hbn
  go_upto_region 10 with fail
  clear hX5
  go_wp2_with fail
  refine (HPT.out X5 ⟨⟨sm, sn, sd⟩, sA, sc, sD, se, sB, sb, sE, sf⟩ HV5.out HO5.out HT5.out).mono ?_
  rintro e w6 ⟨rfl, hb6⟩
  have HW6 : Hid (Below w.heap.size w w6) := (HW5.out.trans (HXX.out.mono hz5)).trans (hb6.mono (by have := HXX.out.size; omega))
  clear hb6
  go_wp2_with fail
  go_ret2
  exact ⟨rfl, HW6.out⟩
set_option maxRecDepth 100000 in
set_option maxHeartbeats 8000000 in
theorem SubR_ (s t : ByteArray) (a b r : Rat9) (ha : GetG s a) (hb : GetG t b) (hr : a.add b.neg = r) (hnb : bigB r = false) (w : World) (hM : RdN w) : Calls Tryz.prog 29 #[.string s, .string t] w fun e w' => e = .returned (.tuple #[.string (bT (txR r)), .int .i64 0]) ∧ Below w.heap.size w w' := by
  obtain ⟨X, hX⟩ : ∃ X, w.alloc (.cells #[.func (.func 63) #[] #[]] 128) = X := ⟨_, rfl⟩
  have HX : Hid (Below w.heap.size w X) := by show Below _ _ _; rw [← hX]; exact (Below.refl _ _).alloc (Nat.le_refl _) _
  have xf : X.cell? ⟨w.heap.size, 0, none⟩ = some (.func (.func 63) #[] #[]) := by rw [← hX]; simp [go_sem]
  have HB := Lib.hid (both_ s t a b r w.heap.size ha hb hr hnb X xf (hM.below HX.out (Nat.le_refl _)))
  have HS : Hid (Calls Tryz.prog 62 #[.func (.func 63) #[] #[]] w fun e w' => e = .returned (.func (.func 91) #[] #[.pointer (some ⟨w.heap.size, 0, none⟩)]) ∧ X = w') := (sure_ w).mono fun e w' ⟨he, hw⟩ => ⟨he, by rw [hw, hX]⟩
  have hzX := HX.out.size
  clear hX xf ha hb hr hnb hM
  go_enter Tryz.func29, Tryz.ntmps29
  go_wp2_with fail
  refine HS.out.mono ?_
  rintro e w' ⟨rfl, rfl⟩
  go_wp2_with fail
  refine HB.out.mono ?_
  rintro e w6 ⟨rfl, hb6⟩
  have HW6 : Hid (Below w.heap.size w w6) := HX.out.trans (hb6.mono hzX)
  clear hb6
  go_wp2_with fail
  go_ret2
  exact ⟨rfl, HW6.out⟩
end Go.Proofs.YtpphnnijnnfngaaGreatDoor
