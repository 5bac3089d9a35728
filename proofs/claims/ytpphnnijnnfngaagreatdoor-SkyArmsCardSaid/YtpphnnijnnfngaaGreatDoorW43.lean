/-
  The walk of the law SkyArms.
-/
import Derived.Test.YtpphnnijnnfngaaGreatDoorW42
import Derived.Test.YtpphnnijnnfngaaGreatDoorW25
namespace Go.Proofs.YtpphnnijnnfngaaGreatDoor
open Go.RowKit Al Nat9 Ring9

theorem infoApiSite : (Tryz.prog.info? 32).map (fun i => (i.zero, i.size, i.bytes)) = some (some (.agg #[.string ⟨#[]⟩, .int .i64 0, .int .i64 0, .int .i64 0, .int .i64 0, .int .i64 0, .int .i64 0, .int .i64 0, .int .i64 0, .int .i64 0]), 10, 88) := by kernel_rfl
theorem heap_newA {w : World} {o : Obj} {B : Nat} (h : w.heap.size = B) : (w.alloc o).heap[B]? = some o := h ▸ heap_alloc_new w o
/-- A network in a box. -/
def BxC (W : World) (b : Nat) (lv nv cv : Value) : Prop := W.heap[b]? = some (.cells #[lv, nv, cv] 24 (0, 0))
section
variable {W W' : World} {b : Nat} {lv nv cv : Value}
theorem BxC.lt (h : BxC W b lv nv cv) : b < W.heap.size := (Array.getElem?_eq_some_iff.1 h).1
theorem BxC.c0 (h : BxC W b lv nv cv) : W.cell? ⟨b, 0, none⟩ = some lv := by unfold BxC at h; simp [World.cell?, h]
theorem BxC.c1 (h : BxC W b lv nv cv) : W.cell? ⟨b, 1, none⟩ = some nv := by unfold BxC at h; simp [World.cell?, h]
theorem BxC.c2 (h : BxC W b lv nv cv) : W.cell? ⟨b, 2, none⟩ = some cv := by unfold BxC at h; simp [World.cell?, h]
theorem BxC.below (h : BxC W b lv nv cv) (g : Below W.heap.size W W') : BxC W' b lv nv cv := (g.block b h.lt).trans h
end
def SwRel (L : List NSi) (base : Nat) (W : World) (o i : Value) (wr : World) : Prop := ∃ (k : Nat) (B : Option Addr) (c : Nat), k ≤ L.length ∧ i = .int .i64 (k : Int) ∧ o = .slice B k c ∧ Hid (wr.ownsRow base 32 10 (.slice B k c) k (nsCells (swL (L.take k)))) ∧ Hid (Below base W wr)
def ArmRel (N : Nat) (W : World) (i : Value) (wr : World) : Prop := ∃ k : Nat, k ≤ N ∧ i = .int .i64 (k : Int) ∧ Hid (Below W.heap.size W wr)
theorem txP1 : bT (txR ⟨false, 1, 1⟩) = ⟨#[49]⟩ := by
  show bT (([] : List UInt8) ++ Lib.decDigits 1 ++ []) = _
  rw [Lib.decDigits_one (by omega)]; rfl
theorem txM1 : bT (txR ⟨true, 1, 1⟩) = ⟨#[45, 49]⟩ := by
  show bT (([45] : List UInt8) ++ Lib.decDigits 1 ++ []) = _
  rw [Lib.decDigits_one (by omega)]; rfl
theorem cmp1_ (s : ByteArray) (a : Rat9) (ha : GetG s a) (w : World) (hM : RdN w) : Calls Tryz.prog 7 #[.string s, .string ⟨#[49]⟩] w fun e w' => e = .returned (.tuple #[.int .i64 (a.cmp ⟨false, 1, 1⟩), .int .i64 0]) ∧ Below w.heap.size w w' := by
  have h := one_get
  rw [txP1] at h
  exact CmpR_ s _ a _ ha h w hM
theorem cmpM_ (s : ByteArray) (a : Rat9) (ha : GetG s a) (w : World) (hM : RdN w) : Calls Tryz.prog 7 #[.string s, .string ⟨#[45, 49]⟩] w fun e w' => e = .returned (.tuple #[.int .i64 (a.cmp ⟨true, 1, 1⟩), .int .i64 0]) ∧ Below w.heap.size w w' := by
  have h := less_get
  rw [txM1] at h
  exact CmpR_ s _ a _ ha h w hM
/-- One site's grasp, and the other's. -/
structure Arm1 (s t : ByteArray) (b c : Int) : Prop where
  neg : ∀ W, RdN W → Calls Tryz.prog 6 #[.string s] W fun e w' => e = .returned (.tuple #[.string t, .int .i64 0]) ∧ Below W.heap.size W w'
  one : ∀ W, RdN W → Calls Tryz.prog 7 #[.string s, .string ⟨#[49]⟩] W fun e w' => e = .returned (.tuple #[.int .i64 b, .int .i64 0]) ∧ Below W.heap.size W w'
  min : ∀ W, RdN W → Calls Tryz.prog 7 #[.string s, .string ⟨#[45, 49]⟩] W fun e w' => e = .returned (.tuple #[.int .i64 c, .int .i64 0]) ∧ Below W.heap.size W w'
  hb : b ≤ 0
  hc : 0 ≤ c
theorem arm1_of {L : List NSi} {n cl : Int} (h : celG L n cl = 0) {k : Nat} (hk : k < L.length) (g1 : k < (graE L n cl).length) (g2 : k < (graE (swL L) n cl).length) :
    Arm1 (graE L n cl)[k] (graE (swL L) n cl)[k] ((graspF L[k].s (dirV n cl)).cmp ⟨false, 1, 1⟩) ((graspF L[k].s (dirV n cl)).cmp ⟨true, 1, 1⟩) := by
  obtain ⟨hg, hnb, he, h1, h2⟩ := gra_site h hk
  have hk2 : k < (swL L).length := by rw [swL_len]; exact hk
  rw [gra_at h g1 hk, gra_at (by rw [celG_sw]; exact h) g2 hk2]
  have e2 : (swL L)[k].s = swapS L[k].s := congrArg NSi.s (List.getElem_map swN)
  rw [e2, ← he]
  exact ⟨fun W hW => NegR_ _ _ _ hg rfl hnb W hW, fun W hW => cmp1_ _ _ hg W hW, fun W hW => cmpM_ _ _ hg W hW, h1, h2⟩
set_option maxRecDepth 100000 in
set_option maxHeartbeats 16000000 in
theorem skyArms_ (L : List NSi) (LA : Option Addr) (lc : Nat) (n cl : Int) (w : World) (hM : RdN w) (hL : Sl w w.heap.size 10 LA L.length lc (nsCells L)) (hm : ∀ x ∈ L, x.nm.size ≤ maxLen) :
    Calls Tryz.prog 3 #[.agg #[.slice LA L.length lc, .int .i64 n, .int .i64 cl]] w fun e w' => e = .returned (.bool true) ∧ Below w.heap.size w w' := by
  obtain ⟨i0, hi, hz0, hz1, hz2⟩ := info_parts infoApiSite
  have HM := Lib.hid hM
  have HL := Lib.hid hL
  have HN := Lib.hid hm
  obtain ⟨v, hv⟩ : ∃ v, celG L n cl = v := ⟨_, rfl⟩
  obtain ⟨G1, hG1⟩ : ∃ l, graE L n cl = l := ⟨_, rfl⟩
  obtain ⟨G2, hG2⟩ : ∃ l, graE (swL L) n cl = l := ⟨_, rfl⟩
  have HG1 : Hid (∀ W, Below w.heap.size w W → Calls Tryz.prog 4 #[.slice LA L.length lc, .int .i64 n, .int .i64 cl] W (GraspOut v G1 W)) := fun W hW => by
    have h := Grasp_ L LA lc n cl W ((hL.below hW).more hW.size) hm (hM.below hW (Nat.le_refl _))
    rw [hv, hG1] at h
    exact h
  have HG2 : Hid (∀ W B c, RdN W → Sl W W.heap.size 10 B L.length c (nsCells (swL L)) → Calls Tryz.prog 4 #[.slice B L.length c, .int .i64 n, .int .i64 cl] W (GraspOut v G2 W)) := fun W B c hW hS => by
    have h := Grasp_ (swL L) B c n cl W (by rw [swL_len]; exact hS) (swL_nm hm) hW
    rw [swL_len, celG_sw, hv, hG2] at h
    exact h
  have HV := Lib.hid hv
  have HA1 : Hid (v = 0 → G1.length = L.length ∧ G2.length = L.length ∧ ∀ k (h1 : k < G1.length) (h2 : k < G2.length), ∃ b c, Arm1 G1[k] G2[k] b c) := fun h0 => by
    subst hG1 hG2
    have h0' : celG L n cl = 0 := by rw [hv, h0]
    have l1 := gra_len h0'
    have l2 := gra_len (L := swL L) (n := n) (cl := cl) (by rw [celG_sw]; exact h0')
    rw [swL_len] at l2
    exact ⟨l1, l2, fun k h1 h2 => ⟨_, _, arm1_of h0' (by omega) h1 h2⟩⟩
  have HN0 : Hid (¬ v = 0 → G1 = []) := fun h0 => by
    rw [← hG1]
    unfold graE
    rw [if_neg (by rw [hv]; exact h0)]
  clear hM hL hm hv hG1 hG2
  go_enter Tryz.func3, Tryz.ntmps3
  go_wp2_with fail
  have HX : Hid (BxC (w.alloc (.cells #[.slice LA L.length lc, .int .i64 n, .int .i64 cl] 24)) w.heap.size (.slice LA L.length lc) (.int .i64 n) (.int .i64 cl)) := heap_alloc_new w _
  have HBW : Hid (Below w.heap.size w (w.alloc (.cells #[.slice LA L.length lc, .int .i64 n, .int .i64 cl] 24))) := (Below.refl _ _).alloc (Nat.le_refl _) _
  obtain ⟨wb, hwb⟩ : ∃ wb, w.alloc (.cells #[.slice LA L.length lc, .int .i64 n, .int .i64 cl] 24) = wb := ⟨_, rfl⟩
  rw [hwb] at HX HBW ⊢
  have hvl : w.heap.size ≤ wb.heap.size := HBW.out.size
  obtain ⟨vb, hvb⟩ : ∃ b, w.heap.size = b := ⟨_, rfl⟩
  rw [hvb] at HX ⊢
  clear hwb hvb
  refine (HG1.out wb HBW.out).mono ?_
  rintro e w1 ⟨s1, rfl, ho, hb⟩
  obtain ⟨AA, ac, rfl⟩ := own_form ho
  have HO1 := Lib.hid ho
  have HB1 := Lib.hid (HBW.out.trans (hb.mono hvl))
  have HX1 := Lib.hid (HX.out.below hb)
  clear ho hb HG1
  have x0 := HX1.out.c0
  have x1 := HX1.out.c1
  have x2 := HX1.out.c2
  have xl := HX1.out.lt
  by_cases h0 : v = 0
  · subst h0
    obtain ⟨l1, l2, har⟩ := HA1.out rfl
    have HAR := Lib.hid har
    have hl6 : L.length ≤ 6 := by
      have h := (celG_ok HV.out).1
      exact (netG_ok h).2.1
    clear har HA1 HN0
    go_wp2_with fail
    have hb1 : w.heap.size ≤ w1.heap.size := HB1.out.size
    clear x0 x1 x2
    go_loopw [5, 6] (fun o i wr => SwRel L w1.heap.size w1 o i wr) (fun _ i _ => L.length - (intOf i).toNat)
    case atStart => exact ⟨0, none, 0, Nat.zero_le _, rfl, rfl, Lib.hid (World.ownsRow_nil _ _ _ _), Lib.hid (Below.refl _ _)⟩
    case round =>
      obtain ⟨k, D, dc, hk, rfl, rfl, HO, HB⟩ := hrel
      have hsz := HB.out.size
      have HBr := Lib.hid (HB1.out.trans (HB.out.mono hb1))
      have HXr := Lib.hid (HX1.out.below HB.out)
      have x0 := HXr.out.c0
      have x1 := HXr.out.c1
      have x2 := HXr.out.c2
      have xr := HXr.out.lt
      by_cases hlt : k < L.length
      · obtain ⟨tb, tof, rfl, htb, c0, c1, c2, c3, c4, c5, c6, c7, c8, c9⟩ := (HL.out.below HBr.out).ns_at hlt
        have HS := Lib.hid (swL_snoc hlt)
        obtain ⟨X, hX⟩ : ∃ X, L[k] = X := ⟨_, rfl⟩
        rw [hX] at c0 c1 c2 c3 c4 c5 c6 c7 c8 c9 HS
        have hlt' : (k : Int) < (L.length : Int) := by omega
        have htb2 : tb < wr.heap.size := by omega
        obtain ⟨nm, ⟨⟨y1, y2, y3⟩, ⟨u1, u2, u3⟩, ⟨v1, v2, v3⟩⟩⟩ := X
        clear hX
        go_wp2_with (at_builtin; go_must (refine wpList_append_lies _ rfl _ _ 22 rfl w1.heap.size 32 i0 (.agg #[.string ⟨#[]⟩, .int .i64 0, .int .i64 0, .int .i64 0, .int .i64 0, .int .i64 0, .int .i64 0, .int .i64 0, .int .i64 0, .int .i64 0]) 10 88 Tryz.underlying22 hi hz0 hz1 hz2 rfl (by decide) (.slice D k dc) k _ rfl (own_below HO.out (Nat.le_refl _) (show Below wr.heap.size wr _ from (by repeat (first | exact Below.refl _ _ | assumption | refine below_drewN ?_ _ | refine Below.drew ?_ | refine Below.setCell ?_ (by first | omega | (simp; done) | (simp; omega)) _ | refine Below.alloc ?_ (by first | omega | (simp; done) | (simp; omega)) _)))) _ 1 1 [.string nm, .int .i64 y1, .int .i64 y2, .int .i64 y3, .int .i64 v1, .int .i64 v2, .int .i64 v3, .int .i64 u1, .int .i64 u2, .int .i64 u3] rfl rfl (World.news_of_block (heap_newA (by first | rfl | (simp; done)))) (ns_one (swN ⟨nm, ⟨(y1, y2, y3), (u1, u2, u3), (v1, v2, v3)⟩⟩)) (by decide) (by unfold maxLen; omega) (by omega) (by simp; omega) _ rfl ?_); intro g cap w6 hown6 hg6 hat6 hlt6; have z6 := hg6.size; (try simp at z6))
        go_roundw
        case rel =>
          refine ⟨k + 1, some ⟨g, 0, none⟩, cap, by omega, by go_num, rfl, Lib.hid ?_, Lib.hid ((HB.out.trans ((show Below wr.heap.size wr _ from (by repeat (first | exact Below.refl _ _ | assumption | refine below_drewN ?_ _ | refine Below.drew ?_ | refine Below.setCell ?_ (by first | omega | (simp; done) | (simp; omega)) _ | refine Below.alloc ?_ (by first | omega | (simp; done) | (simp; omega)) _))).mono hsz)).grown hg6 (by simp; omega) (fun g h => (own_lt HO.out h).1))⟩
          rw [HS.out]
          exact hown6
        case measure => simp [intOf]; omega
      · obtain rfl : k = L.length := by omega
        have HSL : Hid (Sl wr wr.heap.size 10 D L.length dc (nsCells (swL L))) := by
          show Sl _ _ _ _ _ _ _
          have h := Sl.of_own HO.out
          rwa [List.take_length] at h
        have HMr : Hid (RdN wr) := HM.out.below HBr.out (Nat.le_refl _)
        have HO1r := Lib.hid (own_below HO1.out (Nat.le_refl _) HB.out)
        go_wp2_with fail
        refine (HG2.out wr D dc HMr.out HSL.out).mono ?_
        rintro e w3 ⟨s2, rfl, ho, hb⟩
        obtain ⟨BB, bc, rfl⟩ := own_form ho
        have hrz := hb.size
        have HP2 := Lib.hid ((Sl.of_own ho).more (Nat.le_refl _))
        have HP1 := Lib.hid (((Sl.of_own HO1r.out).bT hb))
        have HB3 := Lib.hid (Below.tr HBr.out hb)
        have HM3 : Hid (RdN w3) := HM.out.below HB3.out (Nat.le_refl _)
        have HX3 := HXr.out.below hb
        have z0 := HX3.c0
        have zl := HX3.lt
        clear ho hb HG2 HSL HMr HO1r HO HB HXr x0 x1 x2 xr HO1 HX1 HX HX3
        go_wp2_with fail
        go_loopw [9] (fun i wr => ArmRel L.length w3 i wr) (fun i _ => L.length - (intOf i).toNat)
        case atStart => exact ⟨0, Nat.zero_le _, rfl, Lib.hid (Below.refl _ _)⟩
        case round =>
          rename_i wr0 _ _ _
          obtain ⟨q, hq, rfl, HB⟩ := hrel
          have hsz3 := HB.out.size
          by_cases hlt : q < L.length
          · have hq1 : q < G1.length := by omega
            have hq2 : q < G2.length := by omega
            obtain ⟨tb, tof, rfl, htb, c0⟩ := (HP1.out.bT HB.out).strAt hq1
            obtain ⟨tb2, tof2, rfl, htb2, d0⟩ := (HP2.out.bT HB.out).strAt hq2
            obtain ⟨b, c, h1⟩ := HAR.out q hq1 hq2
            have hb0 := h1.hb
            have hc0 := h1.hc
            have HA := Lib.hid h1
            obtain ⟨S, hS⟩ : ∃ S, G1[q] = S := ⟨_, rfl⟩
            obtain ⟨T, hT⟩ : ∃ T, G2[q] = T := ⟨_, rfl⟩
            rw [hS] at c0 HA
            rw [hT] at d0 HA
            have e1 : (T.toList != T.toList) = false := by simp
            have hlt' : (q : Int) < (L.length : Int) := by omega
            clear h1 hS hT
            have htb3 : tb < wr.heap.size := by omega
            have htb4 : tb2 < wr.heap.size := by omega
            have HMQ : Hid (RdN wr) := HM3.out.below HB.out (Nat.le_refl _)
            go_wp2_with fail
            refine (HA.out.neg _ HMQ.out).mono ?_
            rintro e w5 ⟨rfl, hb⟩
            have c5 := (hb.cell (p := ⟨tb, tof + q, none⟩) htb3).trans c0
            have d5 := (hb.cell (p := ⟨tb2, tof2 + q, none⟩) htb4).trans d0
            have hz5 := hb.size
            have HB5 := Lib.hid (Below.tr HB.out hb)
            have HM5 : Hid (RdN w5) := HM3.out.below HB5.out (Nat.le_refl _)
            clear hb c0 d0
            go_wp2_with fail
            refine (HA.out.one _ HM5.out).mono ?_
            rintro e w6 ⟨rfl, hb⟩
            have c6 := (hb.cell (p := ⟨tb, tof + q, none⟩) (show tb < _ by omega)).trans c5
            have d6 := (hb.cell (p := ⟨tb2, tof2 + q, none⟩) (show tb2 < _ by omega)).trans d5
            have hz6 := hb.size
            have HB6 := Lib.hid (Below.tr HB5.out hb)
            have HM6 : Hid (RdN w6) := HM3.out.below HB6.out (Nat.le_refl _)
            clear hb c5 d5
            go_wp2_with fail
            refine (HA.out.min _ HM6.out).mono ?_
            rintro e w7 ⟨rfl, hb⟩
            have d7 := (hb.cell (p := ⟨tb2, tof2 + q, none⟩) (show tb2 < _ by omega)).trans d6
            have hz7 := hb.size
            have HB7 := Lib.hid (Below.tr HB6.out hb)
            clear hb c6 d6
            have hb1 : ¬ 0 < b := by omega
            have hc1 : ¬ c < 0 := by omega
            have htb5 : tb2 < w7.heap.size := by omega
            clear hb0 hc0
            go_wp2_with fail
            go_roundw
            case rel => exact ⟨q + 1, by omega, by go_num, HB7⟩
            case measure => simp [intOf]; omega
          · obtain rfl : q = L.length := by omega
            have HB9 := Lib.hid (HB3.out.trans (HB.out.mono HB3.out.size))
            go_wp2_with fail
            refine (works_ _ ((HM.out.below HB9.out (Nat.le_refl _)).m)).mono ?_
            rintro e w9 ⟨rfl, hb⟩
            have HB10 := Lib.hid (Below.tr HB9.out hb)
            clear hb
            go_wp2_with fail
            go_ret
            exact ⟨rfl, HB10.out⟩
  · have hnz : (v != 0) = true := by simpa using h0
    obtain rfl : G1 = [] := HN0.out h0
    clear x0 x1 x2 xl
    go_wp2_with fail
    refine (works_ _ ((HM.out.below HB1.out (Nat.le_refl _)).m)).mono ?_
    rintro e w9 ⟨rfl, hb⟩
    have HB9 := Lib.hid (Below.tr HB1.out hb)
    clear hb
    go_wp2_with fail
    go_ret
    exact ⟨rfl, HB9.out⟩
end Go.Proofs.YtpphnnijnnfngaaGreatDoor
