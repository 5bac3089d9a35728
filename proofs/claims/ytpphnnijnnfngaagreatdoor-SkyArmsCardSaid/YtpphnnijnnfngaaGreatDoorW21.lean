/-
  The walk of the watch's covers.
-/
import Derived.Test.YtpphnnijnnfngaaGreatDoorW20
import Derived.Deep.RegionHeld3
import Derived.Deep.DeepCutAuto
import Derived.IntWalk
namespace Go.Proofs.YtpphnnijnnfngaaGreatDoor
open Go.RowKit Al

/-- What a look covers. -/
def coversX (n : Int) (N : Nat) (x : Scp) (t : Nat) (cell : Int) : List Int := (seesX n N x t).filter fun c => nearW (dirV n c) (dirV n cell) x.fn x.fd
theorem seesX_in {n : Int} {N : Nat} {x : Scp} {t : Nat} {c : Int} (h : c ∈ seesX n N x t) : 0 ≤ c ∧ c < (N : Int) := by
  unfold seesX pickL cellsL at h
  simp only [List.mem_map, List.mem_filter, List.mem_range] at h
  obtain ⟨a, ⟨⟨k, hk, rfl⟩, _⟩, rfl⟩ := h
  simp only
  omega
/-- A vector in a box. -/
structure VecAt (W : World) (B : Nat) (d : V3) : Prop where
  c0 : W.cell? ⟨B, 0, none⟩ = some (.int .i64 d.1)
  c1 : W.cell? ⟨B, 1, none⟩ = some (.int .i64 d.2.1)
  c2 : W.cell? ⟨B, 2, none⟩ = some (.int .i64 d.2.2)
  lt : B < W.heap.size
theorem VecAt.below {W W' : World} {B : Nat} {d : V3} (h : VecAt W B d) (hb : Below W.heap.size W W') : VecAt W' B d :=
  ⟨(hb.cell (p := ⟨B, 0, none⟩) h.lt).trans h.c0, (hb.cell (p := ⟨B, 1, none⟩) h.lt).trans h.c1, (hb.cell (p := ⟨B, 2, none⟩) h.lt).trans h.c2, Nat.lt_of_lt_of_le h.lt hb.size⟩
theorem VecAt.grown {W W' : World} {B r : Nat} {d : V3} (h : VecAt W B d) (g : W.grownBy W' (some r)) (hr : B ≠ r) : VecAt W' B d := by
  have hbk := g.block B h.lt (fun e => hr (Option.some.inj e))
  have cell : ∀ o, W'.cell? ⟨B, o, none⟩ = W.cell? ⟨B, o, none⟩ := fun o => by simp [World.cell?, hbk]
  exact ⟨(cell 0).trans h.c0, (cell 1).trans h.c1, (cell 2).trans h.c2, Nat.lt_of_lt_of_le h.lt g.size⟩
/-- A fresh box for a vector. -/
structure Zw (W : World) (B : Nat) : Prop where
  c0 : W.cell? ⟨B, 0, none⟩ = some (.int .i64 0)
  c1 : W.cell? ⟨B, 1, none⟩ = some (.int .i64 0)
  c2 : W.cell? ⟨B, 2, none⟩ = some (.int .i64 0)
  f0 : W.frozen? ⟨B, 0, none⟩ = false
  f1 : W.frozen? ⟨B, 1, none⟩ = false
  f2 : W.frozen? ⟨B, 2, none⟩ = false
  lt : B < W.heap.size
theorem zw_new (w : World) : Zw (w.alloc (.cells #[.int .i64 0, .int .i64 0, .int .i64 0] 40)) w.heap.size := by
  constructor <;> simp [go_sem]
theorem Zw.keep {W W' : World} {B : Nat} (h : Zw W B) (hb : Below W.heap.size W W') : Zw W' B :=
  ⟨(hb.cell (p := ⟨B, 0, none⟩) h.lt).trans h.c0, (hb.cell (p := ⟨B, 1, none⟩) h.lt).trans h.c1, (hb.cell (p := ⟨B, 2, none⟩) h.lt).trans h.c2,
   (hb.frozen (p := ⟨B, 0, none⟩) h.lt).trans h.f0, (hb.frozen (p := ⟨B, 1, none⟩) h.lt).trans h.f1, (hb.frozen (p := ⟨B, 2, none⟩) h.lt).trans h.f2, Nat.lt_of_lt_of_le h.lt hb.size⟩
theorem Zw.set {W : World} {B : Nat} (h : Zw W B) (a b c : Int) : VecAt (((W.setCell ⟨B, 0, none⟩ (.int .i64 a)).setCell ⟨B, 1, none⟩ (.int .i64 b)).setCell ⟨B, 2, none⟩ (.int .i64 c)) B (a, b, c) :=
  have t := three_set h.c0 h.c1 h.c2 (.int .i64 a) (.int .i64 b) (.int .i64 c)
  ⟨t.1, t.2.1, t.2.2, by simpa using h.lt⟩
def VecCut (X : World) (d : V3) (s6 : Value) (wx : World) : Prop := ∃ B, s6 = .pointer (some ⟨B, 0, none⟩) ∧ VecAt wx B d ∧ Below X.heap.size X wx ∧ X.heap.size ≤ B
def CvRel (P : Int → Bool) (l : List Int) (w3 : World) (o i : Value) (wr : World) : Prop :=
  ∃ (k : Nat) (A : Option Addr) (c : Nat), k ≤ l.length ∧ i = .int .i64 (k : Int) ∧ o = .slice A ((l.take k).filter P).length c ∧ Hid (wr.ownsRow w3.heap.size 3 1 (.slice A ((l.take k).filter P).length c) ((l.take k).filter P).length (ints ((l.take k).filter P))) ∧ Hid (Below w3.heap.size w3 wr)
theorem filt_succ (P : Int → Bool) {l : List Int} {k : Nat} (h : k < l.length) : (l.take (k + 1)).filter P = (l.take k).filter P ++ (if P l[k] then [l[k]] else []) := by
  rw [List.take_succ_eq_append_getElem h, List.filter_append]
  congr 1
  by_cases hp : P l[k] = true
  · simp [hp]
  · simp [hp]
set_option maxRecDepth 100000 in
set_option maxHeartbeats 8000000 in
theorem covers_ (R : Nat → Prop) (B0 wb mb : Nat) (LA : Option Addr) (lc : Nat) (L : List Scp) (n : Int) (h1' : 1 ≤ n) (h8 : n ≤ 8) (N : Nat) (hN : (N : Int) = 6 * (n * n)) (f : Fin 32 → Option Value) (k : Fin 32) (x : Scp) (hx : L[k.1 % 4]? = some x) (ht : k.1 / 4 < x.zs.length) (cell : Int) (hc0 : 0 ≤ cell) (hc1 : cell < N) (W : World) (hW : WAt W R B0 wb mb LA lc L n N f) (hR : ∀ r, R r → r < W.heap.size) :
    Calls Tryz.prog 46 #[.pointer (some ⟨wb, 0, none⟩), .agg #[.int .i64 ((k.1 / 4 : Nat) : Int), .int .i64 ((k.1 % 4 : Nat) : Int), .int .i64 cell]] W (SeesT W R B0 wb mb LA lc L n N (coversX n N x (k.1 / 4) cell)) := by
  obtain ⟨i0, hi, hz0, hz1, hz2⟩ := info_parts cInfo
  have HW := Lib.hid hW
  have HR := Lib.hid hR
  have HX := Lib.hid hx
  have hwl := hW.lt
  have hml : mb < W.heap.size := by obtain ⟨c, hm⟩ := hW.mp; exact hm.lt
  have HDC : Hid (∀ W' (c : Int), 0 ≤ c → c < N → Calls Tryz.prog 25 #[.int .i64 n, .int .i64 c] W' fun e w' => e = .returned (v3 (dirV n c)) ∧ Below W'.heap.size W' w') := fun W' c h0 hlt => direction_ n c h1' h8 h0 (by omega) W'
  have HSE : Hid (∀ W' f', WAt W' R B0 wb mb LA lc L n N f' → (∀ r, R r → r < W'.heap.size) → Calls Tryz.prog 44 #[.pointer (some ⟨wb, 0, none⟩), .int .i64 ((k.1 / 4 : Nat) : Int), .int .i64 ((k.1 % 4 : Nat) : Int)] W' (SeesT W' R B0 wb mb LA lc L n N (seesX n N x (k.1 / 4)))) := fun W' f' hW' hR' => sees_ R B0 wb mb LA lc L n h1' h8 N hN f' k x hx ht W' hW' hR'
  obtain ⟨dv, hdv⟩ : ∃ d, dirV n cell = d := ⟨_, rfl⟩
  have HDV := Lib.hid hdv
  have e1 := hW.c1
  obtain ⟨t, htt⟩ : ∃ t, k.1 / 4 = t := ⟨_, rfl⟩
  obtain ⟨s, hss⟩ : ∃ s, k.1 % 4 = s := ⟨_, rfl⟩
  have HKS := Lib.hid hss
  rw [htt] at HSE ht ⊢
  rw [hss] at HSE ⊢
  clear htt hss hW hR hx hdv
  go_enter Tryz.func46, Tryz.ntmps46
  go_upto_region 2 with fail
  obtain ⟨X, hX⟩ : ∃ X, (W.alloc (.cells #[.int .i64 (t : Int), .int .i64 (s : Int), .int .i64 cell] 62)) = X := ⟨_, rfl⟩
  have HBX : Hid (Below W.heap.size W X) := by show Below _ _ _; rw [← hX]; exact (by repeat (first | exact Below.refl _ _ | assumption | refine below_drewN ?_ _ | refine Below.drew ?_ | refine Below.setCell ?_ (by first | omega | (simp; done) | (simp; omega)) _ | refine Below.alloc ?_ (by first | omega | (simp; done) | (simp; omega)) _))
  have l0 : X.cell? ⟨W.heap.size, 0, none⟩ = some (.int .i64 (t : Int)) := by rw [← hX]; simp [go_sem]
  have l1 : X.cell? ⟨W.heap.size, 1, none⟩ = some (.int .i64 (s : Int)) := by rw [← hX]; simp [go_sem]
  have l2 : X.cell? ⟨W.heap.size, 2, none⟩ = some (.int .i64 cell) := by rw [← hX]; simp [go_sem]
  have hXs : W.heap.size + 1 ≤ X.heap.size := by rw [← hX]; simp
  have g0 : W.heap.size < X.heap.size := by omega
  have g1 : wb < X.heap.size := by omega
  have f1 := (HBX.out.cell (p := ⟨wb, 1, none⟩) hwl).trans e1
  rw [hX]
  clear hX e1
  have DC : Below X.heap.size X X := Below.refl _ _
  go_cut [6] (fun s6 wx => VecCut X dv s6 wx)
  case first =>
    go_region_held3 (fun w' => ∀ k o, k < X.heap.size → w'.cell? ⟨k, o, none⟩ = X.cell? ⟨k, o, none⟩) (first | (with_reducible exact kN) | exact fun k o h => (show Below X.heap.size X _ from (by (repeat (first | exact Below.refl _ _ | assumption | refine below_drewN ?_ _ | refine Below.drew ?_ | refine Below.setCell ?_ (by first | omega | (simp; done) | (simp; omega)) _ | refine Below.alloc ?_ (by first | omega | (simp; done) | (simp; omega)) _)))).cell (p := ⟨k, o, none⟩) h)
      (first
        | (go_at_call 25; refine (HDC.out _ cell hc0 hc1).mono ?_; intro e w4 hnt; obtain ⟨he, hbn⟩ := hnt; subst he; rw [HDV.out]; have DC4 : Below X.heap.size X w4 := (show Below X.heap.size X _ from (by (repeat (first | exact Below.refl _ _ | assumption | refine below_drewN ?_ _ | refine Below.drew ?_ | refine Below.setCell ?_ (by first | omega | (simp; done) | (simp; omega)) _ | refine Below.alloc ?_ (by first | omega | (simp; done) | (simp; omega)) _)))).trans (hbn.mono (by first | omega | (simp; done) | (simp; omega))); have hz4 := DC4.size; have kN := (fun k o (h : k < X.heap.size) => DC4.cell (p := ⟨k, o, none⟩) h); (try have Z4 := Zw.keep (B := X.heap.size) (by first | exact zw_new _ | exact (zw_new _).keep ((Below.refl _ _).drew)) hbn); (try (obtain ⟨q0, q1, q2, f0, f1', f2, hlt⟩ := Z4)); clear hbn))
    all_goals go_wp2_with fail
    all_goals go_meet
    case rel => exact ⟨_, rfl, ⟨by simp [go_sem], by simp [go_sem], by simp [go_sem], by simp⟩, DC4.alloc hz4 _, hz4⟩
    case rel => exact ⟨_, rfl, Zw.set ⟨q0, q1, q2, f0, f1', f2, hlt⟩ _ _ _, ((DC4.setCell (Nat.le_refl _) _).setCell (Nat.le_refl _) _).setCell (Nat.le_refl _) _, Nat.le_refl _⟩
  case rest =>
    rename World => wc
    obtain ⟨BV, rfl, hv, hb, hBV⟩ := hcut
    have HV := Lib.hid hv
    have hXl : W.heap.size ≤ X.heap.size := by omega
    have HWc := Lib.hid (HW.out.below (HBX.out.trans (hb.mono hXl)))
    have HRc : Hid (∀ r, R r → r < wc.heap.size) := fun r hr => by have := HR.out r hr; have := hb.size; omega
    have m0 := (hb.cell (p := ⟨W.heap.size, 0, none⟩) g0).trans l0
    have m1 := (hb.cell (p := ⟨W.heap.size, 1, none⟩) g0).trans l1
    have HGc := Lib.hid (HBX.out.trans (hb.mono hXl))
    have hzc : W.heap.size < wc.heap.size := by have := hb.size; omega
    clear hv hb l0 l1 l2 f1
    go_wp2_with fail
    refine (HSE.out _ f HWc.out HRc.out).mono ?_
    rintro e w3 ⟨v, f', rfl, ⟨A, c, rfl, hs, hne⟩, hwa, hg⟩
    have HWA := Lib.hid hwa
    have HS := Lib.hid hs
    have HG3 : Hid (W.grownBy w3 (some mb)) := (grown_some HGc.out).trans hg
    have hVB : BV ≠ mb := by omega
    have hv3 := HV.out.grown hg hVB
    have v0 := hv3.c0
    have v1 := hv3.c1
    have v2 := hv3.c2
    have vl := hv3.lt
    have hbk := hg.block W.heap.size hzc (fun e => by have := Option.some.inj e; omega)
    have n1 : w3.cell? ⟨W.heap.size, 1, none⟩ = some (.int .i64 (s : Int)) := (show w3.cell? ⟨W.heap.size, 1, none⟩ = wc.cell? ⟨W.heap.size, 1, none⟩ by simp [World.cell?, hbk]).trans m1
    have hz3 := hg.size
    have y0 := hwa.c0
    have y1 := hwa.c1
    have hsl : s < L.length := by
      have := (List.getElem?_eq_some_iff.1 HX.out).1
      rw [HKS.out] at this
      exact this
    obtain ⟨sb, so, hla, hsb, d0, d1, d2, d3, d4, d5⟩ := hwa.sl.sc_at hsl
    have hxe : L[s] = x := by
      have := HX.out
      rw [HKS.out] at this
      exact (List.getElem?_eq_some_iff.1 this).2
    rw [hxe] at d0 d1 d2 d3 d4 d5
    have hlc := hwa.sl.cap
    have hlm : L.length ≤ 9223372036854775807 := Nat.le_trans hwa.sl.cap hwa.sl.max
    have hB3 : B0 ≤ w3.heap.size := Nat.le_trans hwa.b0 (Nat.le_of_lt hwa.lt)
    have hwl3 := hwa.lt
    rw [hla] at y0
    obtain ⟨m, hm⟩ : ∃ m, L.length = m := ⟨_, rfl⟩
    rw [hm] at y0 hsl hlc hlm
    clear hm hxe hwa hs hg hbk hv3 m0 m1 d0 d3 d4 d5
    have hsl' : (s : Int) < (m : Int) := by omega
    have hlc' : (m : Int) ≤ (lc : Int) := by omega
    have s0 : (0 : Int) ≤ (s : Int) := by omega
    obtain ⟨l, hl⟩ : ∃ l, seesX n N x t = l := ⟨_, rfl⟩
    have HIN : Hid (∀ c ∈ l, 0 ≤ c ∧ c < (N : Int)) := fun c hc => seesX_in (by rw [hl]; exact hc)
    have HCX : Hid (coversX n N x t cell = l.filter fun c => nearW (dirV n c) dv x.fn x.fd) := by show _ = _; unfold coversX; rw [hl, HDV.out]
    rw [hl] at HS
    have hll : l.length ≤ 384 := by
      have h1 : l.length ≤ N := by
        rw [← hl]
        unfold seesX pickL
        rw [List.length_map]
        exact Nat.le_trans (List.length_filter_le _ _) (by rw [cellsL_len]; exact Nat.le_refl _)
      have := sq_in h1' h8
      omega
    rw [hl]
    clear hl
    go_wp2_with fail
    go_loopw [5, 23] (fun o i wr => CvRel (fun c => nearW (dirV n c) dv x.fn x.fd) l w3 o i wr) (fun _ i _ => l.length - (intOf i).toNat)
    case atStart => exact ⟨0, none, 0, Nat.zero_le _, rfl, rfl, Lib.hid (World.ownsRow_nil _ _ _ _), Lib.hid (Below.refl _ _)⟩
    case round =>
      obtain ⟨j, B, cc, hj, rfl, rfl, HO, HB⟩ := hrel
      have hsz := HB.out.size
      by_cases hlt : j < l.length
      · obtain ⟨tb, tof, rfl, htb, c0⟩ := (Sl.below HS.out HB.out).int_at hlt hlt
        obtain ⟨cv, hcv⟩ : ∃ c, l[j] = c := ⟨_, rfl⟩
        have hin := HIN.out cv (by rw [← hcv]; exact List.getElem_mem hlt)
        have HFS := Lib.hid (filt_succ (fun c => nearW (dirV n c) dv x.fn x.fd) hlt)
        rw [hcv] at c0 HFS
        obtain ⟨dc, hdc⟩ : ∃ d, dirV n cv = d := ⟨_, rfl⟩
        have HD1 : Hid (∀ W', Calls Tryz.prog 25 #[.int .i64 n, .int .i64 cv] W' fun e w' => e = .returned (v3 dc) ∧ Below W'.heap.size W' w') := fun W' => hdc ▸ HDC.out W' cv hin.1 hin.2
        obtain ⟨pb, hpb⟩ : ∃ b, nearW dc dv x.fn x.fd = b := ⟨_, rfl⟩
        have HN1 : Hid (∀ W', Calls Tryz.prog 76 #[v3 dc, v3 dv, .agg #[.int .i64 x.fn, .int .i64 x.fd]] W' fun e w' => e = .returned (.bool pb) ∧ Below W'.heap.size W' w') := fun W' => hpb ▸ near_ dc dv x.fn x.fd W'
        have HPB : Hid (nearW (dirV n cv) dv x.fn x.fd = pb) := by show _ = _; rw [hdc]; exact hpb
        have y0' := (HB.out.cell (p := ⟨wb, 0, none⟩) hwl3).trans y0
        have y1' := (HB.out.cell (p := ⟨wb, 1, none⟩) hwl3).trans y1
        have v0' := (HB.out.cell (p := ⟨BV, 0, none⟩) vl).trans v0
        have v1' := (HB.out.cell (p := ⟨BV, 1, none⟩) vl).trans v1
        have v2' := (HB.out.cell (p := ⟨BV, 2, none⟩) vl).trans v2
        have n1' := (HB.out.cell (p := ⟨W.heap.size, 1, none⟩) (by show W.heap.size < _; omega)).trans n1
        have d1' := (HB.out.cell (p := ⟨sb, so + s * 6 + 1, none⟩) (by show sb < _; omega)).trans d1
        have d2' := (HB.out.cell (p := ⟨sb, so + s * 6 + 2, none⟩) (by show sb < _; omega)).trans d2
        have hlt' : (j : Int) < (l.length : Int) := by omega
        have q0 : tb < wr.heap.size := by omega
        have q1 : wb < wr.heap.size := by omega
        have q2 : BV < wr.heap.size := by omega
        have q3 : W.heap.size < wr.heap.size := by omega
        have q4 : sb < wr.heap.size := by omega
        clear hcv hdc hpb
        go_wp2_with fail
        refine wp_region_bw2 (by kernel_rfl) (by kernel_rfl) (fun hbwc => ?_)
        repeat (go_big_quiet_step ((first | (go_at_call 25; exact bwCall (HD1.out _)) | (go_at_call 76; exact bwCall (HN1.out _)))))
        refine wpQuiet_nil ?_
        clear hbwc
        intro w5 hb
        have HB5 := Lib.hid hb
        have hz5 := hb.size
        clear hb
        cases pb with
        | true =>
          have HE : Hid (((l.take (j + 1)).filter fun c => nearW (dirV n c) dv x.fn x.fd) = ((l.take j).filter fun c => nearW (dirV n c) dv x.fn x.fd) ++ [cv]) := by show _ = _; rw [HFS.out, if_pos HPB.out]
          have hfl : ((l.take j).filter fun c => nearW (dirV n c) dv x.fn x.fd).length ≤ 384 := Nat.le_trans (List.length_filter_le _ _) (by rw [List.length_take]; omega)
          obtain ⟨fl, hfe⟩ : ∃ fl, ((l.take j).filter fun c => nearW (dirV n c) dv x.fn x.fd) = fl := ⟨_, rfl⟩
          rw [hfe] at HO HE hfl ⊢
          clear hfe
          go_wp2_with (at_builtin; go_must (refine wpList_append_lies _ rfl _ _ 48 rfl w3.heap.size 3 i0 (.int .i64 0) 1 8 Tryz.underlying48 hi hz0 hz1 hz2 rfl (by decide) (.slice B fl.length cc) fl.length _ rfl (own_below HO.out (Nat.le_refl _) (HB5.out.alloc HB5.out.size _)) _ 1 1 [.int .i64 cv] rfl rfl (World.news_of_block (heap_alloc_new w5 _)) (by intro u hu; rw [List.mem_singleton.1 hu]; rfl) (by decide) (by unfold maxLen; omega) (by omega) (by simp; omega) _ rfl ?_); intro g cap w6 hown6 hg6 hat6 hlt6; have z6 := hg6.size; (try simp at z6))
          go_roundw
          case rel =>
            refine ⟨j + 1, some ⟨g, 0, none⟩, cap, by omega, by go_num, by rw [HE.out, List.length_append]; rfl, Lib.hid ?_, Lib.hid ((HB.out.trans ((HB5.out.alloc HB5.out.size _).mono hsz)).grown hg6 (by simp; omega) (fun g h => (own_lt HO.out h).1))⟩
            rw [HE.out, List.length_append]
            have e : ints (fl ++ [cv]) = ints fl ++ [.int .i64 cv] := by simp [ints]
            rw [e]
            exact hown6
          case measure => simp [intOf]; omega
        | false =>
          have HE : Hid (((l.take (j + 1)).filter fun c => nearW (dirV n c) dv x.fn x.fd) = ((l.take j).filter fun c => nearW (dirV n c) dv x.fn x.fd)) := by show _ = _; rw [HFS.out, if_neg (by rw [HPB.out]; decide), List.append_nil]
          go_wp2_with fail
          go_roundw
          case rel => exact ⟨j + 1, B, cc, by omega, by go_num, by rw [HE.out], by rw [HE.out]; exact Lib.hid (own_below HO.out (Nat.le_refl _) HB5.out), Lib.hid (HB.out.trans (HB5.out.mono hsz))⟩
          case measure => simp [intOf]; omega
      · obtain rfl : j = l.length := by omega
        rw [List.take_length] at HO ⊢
        have hmb3 : mb < w3.heap.size := by omega
        have HSV : Hid (SeesV wr R mb (l.filter fun c => nearW (dirV n c) dv x.fn x.fd) (.slice B (l.filter fun c => nearW (dirV n c) dv x.fn x.fd).length cc)) := seesV_own HO.out hmb3 (fun r hr => by have := HR.out r hr; omega)
        go_wp2_with fail
        go_ret
        exact ⟨_, f', rfl, by rw [HCX.out]; exact HSV.out, HWA.out.below HB.out, HG3.out.trans (grown_some HB.out)⟩
end Go.Proofs.YtpphnnijnnfngaaGreatDoor

/-
  The walks of the sky's prize and take.
-/
namespace Go.Proofs.YtpphnnijnnfngaaGreatDoor
open Go.RowKit Al

/-- What is left to gain, behind some cells. -/
def prizeF (ws : List Int) (o : List Int) : List Int → List Int
  | [] => o
  | c :: t => prizeF ws (o.set c.toNat (ws.getD c.toNat 0)) t
theorem prizeF_snoc (ws o l : List Int) (c : Int) : prizeF ws o (l ++ [c]) = (prizeF ws o l).set c.toNat (ws.getD c.toNat 0) := by
  induction l generalizing o with
  | nil => rfl
  | cons a t ih => exact ih _
theorem prizeF_len (ws o l : List Int) : (prizeF ws o l).length = o.length := by
  induction l generalizing o with
  | nil => rfl
  | cons a t ih => rw [prizeF, ih, List.length_set]
theorem ints_set (l : List Int) (k : Nat) (v : Int) : (ints l).set k (.int .i64 v) = ints (l.set k v) := by
  unfold ints
  rw [List.map_set]
theorem ints_rep (n : Nat) : (madeCells (Value.int .i64 0).cells (n * 1)).toList = ints (List.replicate n 0) := by
  show (madeCells #[Value.int .i64 0] (n * 1)).toList = _
  rw [Nat.mul_one, toList_madeCells_one]
  unfold ints
  rw [List.map_replicate]
def PrRow (w : World) (n : Nat) (o : List Int) (wr : World) : Prop := Hid (wr.ownsRow w.heap.size 3 1 (.slice (some ⟨w.heap.size, 0, none⟩) n n) n (ints o)) ∧ Hid (Below w.heap.size w wr)
def PrRel (ws l : List Int) (w : World) (i : Value) (wr : World) : Prop := ∃ k : Nat, k ≤ l.length ∧ i = .int .i64 (k : Int) ∧ PrRow w ws.length (prizeF ws (List.replicate ws.length 0) (l.take k)) wr
/-- A row of ints is handed back. -/
def PrT (ws l : List Int) (w : World) (e : Ending) (w' : World) : Prop := e = .returned (.slice (some ⟨w.heap.size, 0, none⟩) ws.length ws.length) ∧ w'.ownsRow w.heap.size 3 1 (.slice (some ⟨w.heap.size, 0, none⟩) ws.length ws.length) ws.length (ints (prizeF ws (List.replicate ws.length 0) l)) ∧ Below w.heap.size w w'
set_option maxRecDepth 100000 in
set_option maxHeartbeats 4000000 in
theorem prize_ (ws l : List Int) (A B : Option Addr) (c d : Nat) (w : World) (hw : Sl w w.heap.size 1 A ws.length c (ints ws)) (hs : Sl w w.heap.size 1 B l.length d (ints l)) (hin : ∀ x ∈ l, 0 ≤ x ∧ x < (ws.length : Int)) (hwl : ws.length ≤ 384) (hw0 : 0 < ws.length) :
    Calls Tryz.prog 43 #[.slice A ws.length c, .slice B l.length d] w (PrT ws l w) := by
  obtain ⟨i0, hi, hz0, hz1, hz2⟩ := info_parts cInfo
  have HW := Lib.hid hw
  have HS := Lib.hid hs
  have HIN := Lib.hid hin
  have hll : l.length ≤ 9223372036854775807 := Nat.le_trans hs.cap hs.max
  have h2 : (0 : Int) ≤ (ws.length : Int) := by omega
  have h3 : (ws.length : Int) ≤ 384 := by omega
  clear hw hs hin
  go_enter Tryz.func43, Tryz.ntmps43
  go_wp2_with (at_make; refine wpList_make_full _ rfl _ _ 48 rfl w.heap.size 3 i0 (.int .i64 0) 1 Tryz.underlying48 hi hz0 hz1 _ _ _ _ ws.length rfl rfl (by omega) (by omega) (by rw [hz2]; omega) (by unfold maxLen; omega) (Nat.le_refl _) ?_; intro w1 hown1 hg1)
  rw [ints_rep] at hown1
  have HO1 := Lib.hid hown1
  have HB1 : Hid (Below w.heap.size w w1) := (Below.refl _ _).grown hg1 (Nat.le_refl _) (fun g h => by cases h)
  clear hown1 hg1
  go_loopw [13] (fun i wr => PrRel ws l w i wr) (fun i _ => l.length - (intOf i).toNat)
  case atStart => exact ⟨0, Nat.zero_le _, rfl, HO1, HB1⟩
  case round =>
    obtain ⟨k, hk, rfl, HO, HB⟩ := hrel
    have hsz := HB.out.size
    by_cases hlt : k < l.length
    · obtain ⟨tb, tof, rfl, htb, c0⟩ := (HS.out.below HB.out).int_at hlt hlt
      obtain ⟨cv, hcv⟩ : ∃ c, l[k] = c := ⟨_, rfl⟩
      have hin := HIN.out cv (by rw [← hcv]; exact List.getElem_mem hlt)
      have HSN : Hid (prizeF ws (List.replicate ws.length 0) (l.take (k + 1)) = (prizeF ws (List.replicate ws.length 0) (l.take k)).set cv.toNat (ws.getD cv.toNat 0)) := by
        show _ = _
        rw [List.take_succ_eq_append_getElem hlt, prizeF_snoc, hcv]
      rw [hcv] at c0
      obtain ⟨cn, rfl⟩ : ∃ n : Nat, cv = (n : Int) := ⟨cv.toNat, by omega⟩
      have hcn : cn < ws.length := by omega
      rw [Int.toNat_natCast] at HSN
      obtain ⟨wbk, wof, rfl, hwb, c1⟩ := (HW.out.below HB.out).int_at hcn hcn
      have hgd : ws.getD cn 0 = ws[cn] := by simp [hcn]
      rw [hgd] at HSN
      obtain ⟨wv, hwv⟩ : ∃ x, ws[cn] = x := ⟨_, rfl⟩
      rw [hwv] at c1 HSN
      have hcap := HW.out.cap
      have hcap2 := HS.out.cap
      have hg := HO.out.lt w.heap.size rfl
      have hg2 : w.heap.size < wr.heap.size := hg.2
      obtain ⟨P0, hP0⟩ : ∃ P, prizeF ws (List.replicate ws.length 0) (l.take k) = P := ⟨_, rfl⟩
      have hPl : P0.length = ws.length := by rw [← hP0, prizeF_len, List.length_replicate]
      rw [hP0] at HO HSN
      have r1 := HO.out.frozenAt cn
      have r0 := HO.out.cellAt cn (by omega)
      rw [ints_at (by omega)] at r0
      obtain ⟨pv, hpv⟩ : ∃ x, P0[cn]'(by omega) = x := ⟨_, rfl⟩
      rw [hpv] at r0
      have HST : Hid ((ints P0).set cn (.int .i64 wv) = ints (P0.set cn wv)) := ints_set P0 cn wv
      have hlt' : (k : Int) < (l.length : Int) := by omega
      have hcn' : (cn : Int) < (ws.length : Int) := by omega
      have htb2 : tb < wr.heap.size := by omega
      have hwb2 : wbk < wr.heap.size := by omega
      clear hcv hwv hgd hP0 hpv hPl hg
      go_wp2_with fail
      have h1 := HO.out.stored cn (.int .i64 wv)
      rw [HST.out] at h1
      go_roundw
      case rel => exact ⟨k + 1, by omega, by go_num, by rw [HSN.out]; exact ⟨Lib.hid h1.1, Lib.hid (HB.out.grown h1.2 hsz (fun g e => by cases e; exact Nat.le_refl _))⟩⟩
      case measure => simp [intOf]; omega
    · obtain rfl : k = l.length := by omega
      rw [List.take_length] at HO
      go_wp2_with fail
      go_ret
      exact ⟨rfl, HO.out, HB.out⟩
/-- What covered cells gain, and what is left then. -/
def takeF (away : Bool) : List Int → List Int → Int × List Int
  | o, [] => (0, o)
  | o, c :: t => ((o.getD c.toNat 0) + (takeF away (if away then o.set c.toNat 0 else o) t).1, (takeF away (if away then o.set c.toNat 0 else o) t).2)
theorem takeF_snoc (away : Bool) (o l : List Int) (c : Int) : takeF away o (l ++ [c]) = ((takeF away o l).1 + (takeF away o l).2.getD c.toNat 0, if away then (takeF away o l).2.set c.toNat 0 else (takeF away o l).2) := by
  induction l generalizing o with
  | nil => simp [takeF]
  | cons a t ih =>
    rw [List.cons_append, takeF, ih, takeF]
    simp only [Prod.mk.injEq, and_true]
    omega
theorem takeF_len (away : Bool) (o l : List Int) : (takeF away o l).2.length = o.length := by
  induction l generalizing o with
  | nil => rfl
  | cons a t ih =>
    rw [takeF]
    simp only
    rw [ih]
    cases away <;> simp
theorem takeF_in (away : Bool) (o l : List Int) (h : ∀ x ∈ o, 0 ≤ x ∧ x ≤ 1000) : (∀ x ∈ (takeF away o l).2, 0 ≤ x ∧ x ≤ 1000) ∧ 0 ≤ (takeF away o l).1 ∧ (takeF away o l).1 ≤ 1000 * l.length := by
  induction l generalizing o with
  | nil => exact ⟨h, Int.le_refl _, by simp [takeF]⟩
  | cons a t ih =>
    have h2 : ∀ x ∈ (if away then o.set a.toNat 0 else o), 0 ≤ x ∧ x ≤ 1000 := by
      cases away with
      | false => exact h
      | true =>
        intro x hx
        rcases List.mem_or_eq_of_mem_set hx with h3 | h3
        · exact h x h3
        · omega
    obtain ⟨i1, i2, i3⟩ := ih _ h2
    rw [takeF]
    refine ⟨i1, ?_⟩
    have h4 : 0 ≤ o.getD a.toNat 0 ∧ o.getD a.toNat 0 ≤ 1000 := by
      rw [List.getD_eq_getElem?_getD]
      cases hg : o[a.toNat]? with
      | none => simp
      | some y => exact h y (List.mem_of_getElem? hg)
    simp only [List.length_cons]
    omega
def TkR (lb n base : Nat) (W0 : World) (o : List Int) (wr : World) : Prop := Hid (wr.ownsRow base 3 1 (.slice (some ⟨lb, 0, none⟩) n n) n (ints o)) ∧ Hid (W0.grownBy wr (some lb))
def TkW (away : Bool) (lf l : List Int) (lb n base : Nat) (w : World) (s i : Value) (wr : World) : Prop := ∃ k : Nat, k ≤ l.length ∧ i = .int .i64 (k : Int) ∧ s = .int .i64 (takeF away lf (l.take k)).1 ∧ TkR lb n base w (takeF away lf (l.take k)).2 wr
/-- What take hands back. -/
def TkT (away : Bool) (lf l : List Int) (lb n base : Nat) (w : World) (e : Ending) (w' : World) : Prop := e = .returned (.int .i64 (takeF away lf l).1) ∧ w'.ownsRow base 3 1 (.slice (some ⟨lb, 0, none⟩) n n) n (ints (takeF away lf l).2) ∧ w.grownBy w' (some lb)
set_option maxRecDepth 100000 in
set_option maxHeartbeats 4000000 in
theorem take_ (away : Bool) (lf l : List Int) (lb n base : Nat) (B : Option Addr) (d : Nat) (w : World) (hO : w.ownsRow base 3 1 (.slice (some ⟨lb, 0, none⟩) n n) n (ints lf)) (hs : Sl w w.heap.size 1 B l.length d (ints l)) (hne : ∀ b o, 0 < l.length → B = some ⟨b, o, none⟩ → b ≠ lb) (hlf : ∀ x ∈ lf, 0 ≤ x ∧ x ≤ 1000) (hin : ∀ x ∈ l, 0 ≤ x ∧ x < (n : Int)) (hll : l.length ≤ 384) (_hn : n ≤ 384) :
    Calls Tryz.prog 45 #[.slice (some ⟨lb, 0, none⟩) n n, .slice B l.length d, .bool away] w (TkT away lf l lb n base w) := by
  have HO0 := Lib.hid hO
  have HS := Lib.hid hs
  have HNE := Lib.hid hne
  have HLF := Lib.hid hlf
  have HIN := Lib.hid hin
  have hlfn : lf.length = n := by have := hO.1; rw [ints_len] at this; omega
  have HLN := Lib.hid hlfn
  clear hO hs hne hlf hin hlfn
  go_enter Tryz.func45, Tryz.ntmps45
  go_wp2_with fail
  go_loopw [7, 12] (fun s i wr => TkW away lf l lb n base w s i wr) (fun _ i _ => l.length - (intOf i).toNat)
  case atStart => exact ⟨0, Nat.zero_le _, rfl, rfl, HO0, Lib.hid (World.grownBy.refl w _)⟩
  case round =>
    obtain ⟨k, hk, rfl, rfl, HO, HG⟩ := hrel
    have hsz := HG.out.size
    by_cases hlt : k < l.length
    · obtain ⟨tb, tof, he, htb, c0⟩ := HS.out.int_at hlt hlt
      have htl : tb ≠ lb := HNE.out tb tof (by omega) he
      subst he
      obtain ⟨cv, hcv⟩ : ∃ c, l[k] = c := ⟨_, rfl⟩
      have hin := HIN.out cv (by rw [← hcv]; exact List.getElem_mem hlt)
      have HSN := Lib.hid (takeF_snoc away lf (l.take k) cv)
      have HTK : Hid (l.take (k + 1) = l.take k ++ [cv]) := by show _ = _; rw [List.take_succ_eq_append_getElem hlt, hcv]
      rw [hcv] at c0
      obtain ⟨cn, rfl⟩ : ∃ n : Nat, cv = (n : Int) := ⟨cv.toNat, by omega⟩
      have hcn : cn < n := by omega
      rw [Int.toNat_natCast] at HSN
      obtain ⟨hb1, hb2, hb3⟩ := takeF_in away lf (l.take k) HLF.out
      have hln := takeF_len away lf (l.take k)
      rw [HLN.out] at hln
      obtain ⟨P, hP⟩ : ∃ P, takeF away lf (l.take k) = P := ⟨_, rfl⟩
      rw [hP] at HO HSN hb1 hb2 hb3 hln ⊢
      obtain ⟨sm, o⟩ := P
      simp only at HO HSN hb1 hb2 hb3 hln ⊢
      have hs3 : sm ≤ 384000 := by
        have : ((l.take k).length : Int) ≤ 384 := by rw [List.length_take]; omega
        omega
      have hgd : o.getD cn 0 = o[cn]'(by omega) := by simp [hln, hcn]
      have hov := hb1 (o[cn]'(by omega)) (List.getElem_mem _)
      rw [hgd] at HSN
      have r1 := HO.out.frozenAt cn
      have r0 := HO.out.cellAt cn (by omega)
      rw [ints_at (by omega)] at r0
      obtain ⟨ov, hovv⟩ : ∃ x, o[cn]'(by omega) = x := ⟨_, rfl⟩
      rw [hovv] at r0 HSN hov
      have ho1 := hov.1
      have ho2 := hov.2
      have HST : Hid ((ints o).set cn (.int .i64 0) = ints (o.set cn 0)) := ints_set o cn 0
      have hlt' : (k : Int) < (l.length : Int) := by omega
      have hcn' : (cn : Int) < (n : Int) := by omega
      have hbk := HG.out.block tb htb (fun e => htl (Option.some.inj e))
      have c0' : wr.cell? ⟨tb, tof + k, none⟩ = some (.int .i64 (cn : Int)) := (show wr.cell? ⟨tb, tof + k, none⟩ = w.cell? ⟨tb, tof + k, none⟩ by simp [World.cell?, hbk]).trans c0
      have hcap2 := HS.out.cap
      clear hcv hP hgd hovv hbk hb1 hov c0 hln hb3
      cases away with
      | true =>
        go_wp2_with fail
        have h1 := HO.out.stored cn (.int .i64 0)
        rw [HST.out] at h1
        go_roundw
        case rel => exact ⟨k + 1, by omega, by go_num, by rw [HTK.out, HSN.out], by rw [HTK.out, HSN.out]; exact ⟨Lib.hid h1.1, Lib.hid (HG.out.trans h1.2)⟩⟩
        case measure => simp [intOf]; omega
      | false =>
        go_wp2_with fail
        go_roundw
        case rel => exact ⟨k + 1, by omega, by go_num, by rw [HTK.out, HSN.out], by rw [HTK.out, HSN.out]; exact ⟨HO, HG⟩⟩
        case measure => simp [intOf]; omega
    · obtain rfl : k = l.length := by omega
      rw [List.take_length] at HO ⊢
      go_wp2_with fail
      go_ret
      exact ⟨rfl, HO.out, HG.out⟩
end Go.Proofs.YtpphnnijnnfngaaGreatDoor
