/-
  Natural numbers of package num: the walk of the long division.
-/
import Derived.Test.YtpphnnijnnfngaaGreatDoorW32
import Derived.Test.YtpphnnijnnfngaaGreatDoorW31
import Derived.Deep.DeepCutAuto
import Derived.Deep.CutBlock
import Derived.Deep.RegionHeld3
import Derived.BigQuiet
namespace Go.Proofs.YtpphnnijnnfngaaGreatDoor
open Go.RowKit Al Nat9

/-- The three rows of the long division. -/
structure OvW (w : World) (gu cu gv cv go co L n m : Nat) (u v o : List Nat) (wr : World) : Prop where
  u : wr.ownsRow w.heap.size 157 1 (.slice (some ⟨gu, 0, none⟩) L cu) L (u64s u)
  v : wr.ownsRow w.heap.size 157 1 (.slice (some ⟨gv, 0, none⟩) n cv) n (u64s v)
  o : wr.ownsRow w.heap.size 157 1 (.slice (some ⟨go, 0, none⟩) m co) m (u64s o)
  b : Below w.heap.size w wr
  uv : gu ≠ gv
  uo : gu ≠ go
  vo : gv ≠ go
theorem cell_ltU {w : World} {b o : Nat} {v : Value} (h : w.cell? ⟨b, o, none⟩ = some v) : b < w.heap.size := by
  rcases Nat.lt_or_ge b w.heap.size with h1 | h1
  · exact h1
  · have e : w.heap[b]? = none := Array.getElem?_eq_none_iff.2 h1
    simp [World.cell?, e] at h
theorem own_lenU {wr : World} {base n : Nat} {z : Value} {l : List Nat} (h : wr.ownsRow base 157 1 z n (u64s l)) : l.length = n := by have := h.1; rw [u64s_len] at this; omega
theorem own_atU {wr : World} {base g n c : Nat} {l : List Nat} (h : wr.ownsRow base 157 1 (.slice (some ⟨g, 0, none⟩) n c) n (u64s l)) {k : Nat} (hk : k < l.length) :
    wr.cell? ⟨g, k, none⟩ = some (.int .u64 (l[k] : Int)) ∧ wr.frozen? ⟨g, k, none⟩ = false ∧ g < wr.heap.size := by
  refine ⟨?_, h.frozenAt k, (h.lt g rfl).2⟩
  rw [h.cellAt k (by have := own_lenU h; omega), u64s_at hk]
theorem own_formU {w : World} {base n : Nat} {e : TypeId} {v : Value} {xs : List Value} (h : w.ownsRow base e 1 v n xs) (hn : 0 < n) : ∃ g cap, v = .slice (some ⟨g, 0, none⟩) n cap := by
  rcases h.2 with ⟨_, h0⟩ | ⟨g, cap, _, hv, _⟩
  · omega
  · exact ⟨g, cap, hv⟩
variable {w wr : World} {gu cu gv cv go co L n m : Nat} {u v o : List Nat}
theorem OvW.setU (h : OvW w gu cu gv cv go co L n m u v o wr) (k d : Nat) : OvW w gu cu gv cv go co L n m (u.set k d) v o (wr.setCell ⟨gu, k, none⟩ (.int .u64 (d : Int))) := by
  have h1 := h.u.stored k (.int .u64 (d : Int))
  rw [u64s_set] at h1
  exact ⟨h1.1, h.v.kept h1.2 (.inr (by simpa [Value.ownBlock] using fun e => h.uv e.symm)), h.o.kept h1.2 (.inr (by simpa [Value.ownBlock] using fun e => h.uo e.symm)), h.b.grown h1.2 h.b.size (fun g e => by cases e; exact (h.u.lt gu rfl).1), h.uv, h.uo, h.vo⟩
theorem OvW.setO (h : OvW w gu cu gv cv go co L n m u v o wr) (k d : Nat) : OvW w gu cu gv cv go co L n m u v (o.set k d) (wr.setCell ⟨go, k, none⟩ (.int .u64 (d : Int))) := by
  have h1 := h.o.stored k (.int .u64 (d : Int))
  rw [u64s_set] at h1
  exact ⟨h.u.kept h1.2 (.inr (by simpa [Value.ownBlock] using h.uo)), h.v.kept h1.2 (.inr (by simpa [Value.ownBlock] using h.vo)), h1.1, h.b.grown h1.2 h.b.size (fun g e => by cases e; exact (h.o.lt go rfl).1), h.uv, h.uo, h.vo⟩
/-- The row of the dividend grows. -/
def UpRel (w : World) (X la gv n cv : Nat) (v : List Nat) (z : Value) (wr : World) : Prop :=
  ∃ (l : List Nat) (A : Option Addr) (c : Nat), z = .slice A l.length c ∧ DG l ∧ val l = X ∧ la ≤ l.length ∧ l.length ≤ la + 1 ∧ Hid (wr.ownsRow w.heap.size 157 1 (.slice A l.length c) l.length (u64s l)) ∧
    Hid (wr.ownsRow w.heap.size 157 1 (.slice (some ⟨gv, 0, none⟩) n cv) n (u64s v)) ∧ (Value.slice A l.length c).ownBlock ≠ some gv ∧ Hid (Below w.heap.size w wr)
theorem OvW.below (h : OvW w gu cu gv cv go co L n m u v o wr) {w' : World} (hb : Below wr.heap.size wr w') : OvW w gu cu gv cv go co L n m u v o w' :=
  ⟨own_below h.u (Nat.le_refl _) hb, own_below h.v (Nat.le_refl _) hb, own_below h.o (Nat.le_refl _) hb, h.b.trans (hb.mono h.b.size), h.uv, h.uo, h.vo⟩
theorem OvW.drew (h : OvW w gu cu gv cv go co L n m u v o wr) (k : Nat) : OvW w gu cu gv cv go co L n m u v o (wr.drewN k) := h.below (below_drewN (Below.refl _ _) k)
def QRel (T V u0 u1 v1 : Nat) (wr : World) (q r : Value) (wz : World) : Prop := ∃ a b : Nat, q = .int .u64 (a : Int) ∧ r = .int .u64 (b : Int) ∧ b < 1000000000 ∧ QI T V u0 u1 v1 a b ∧ Hid (Below wr.heap.size wr wz)
def QEnd (T V : Nat) (wr : World) (q : Value) (wz : World) : Prop := ∃ a : Nat, q = .int .u64 (a : Int) ∧ QD T V a ∧ Hid (Below wr.heap.size wr wz)
def MsRel (w : World) (gu cu gv cv go co L n m : Nat) (u v o : List Nat) (q k : Nat) (i b : Value) (wz : World) : Prop :=
  ∃ (j c : Nat) (p : List Nat), j ≤ n ∧ i = .int .i64 (j : Int) ∧ b = .int .u64 (c : Int) ∧ MsI u v q k j p c ∧ OvW w gu cu gv cv go co L n m p v o wz
def BaRel (w : World) (gu cu gv cv go co L n m : Nat) (u v o : List Nat) (k : Nat) (i b : Value) (wz : World) : Prop :=
  ∃ (j c : Nat) (p : List Nat), j ≤ n ∧ i = .int .i64 (j : Int) ∧ b = .int .u64 (c : Int) ∧ BaI u v k j p c ∧ OvW w gu cu gv cv go co L n m p v o wz
def OvRel (w : World) (gu cu gv cv go co L n m : Nat) (U V : Nat) (v : List Nat) (i : Value) (wr : World) : Prop :=
  ∃ (k : Nat) (u o : List Nat), k ≤ m ∧ i = .int .i64 ((k : Int) - 1) ∧ DivI U V n k u o ∧ o.length = m - k ∧ OvW w gu cu gv cv go co L n m u v (List.replicate k 0 ++ o) wr
set_option maxRecDepth 100000 in
set_option maxHeartbeats 8000000 in
theorem over_long (x y : Nat) (A D : Option Addr) (c d : Nat) (w : World) (ha : NaIn w A c x) (hb : NaIn w D d y) (hle : y ≤ x) (hy9 : 1000000000 ≤ y) (hx : (dg x).length ≤ 524288) :
    Calls Tryz.prog 90 #[.slice A (dg x).length c, .slice D (dg y).length d] w (NaPT (x / y) (x % y) w) := by
  obtain ⟨i0, hi, hz0, hz1, hz2⟩ := info_parts infoU64
  have HA := Lib.hid ha
  have HB := Lib.hid hb
  have HC := compare_ x y A D c d w ha hb
  have hcn := cmp_nn hle
  obtain ⟨cv, hcv⟩ : ∃ z, cmpN x y = z := ⟨_, rfl⟩
  rw [hcv] at HC hcn
  have hll := dg_len_mono hle
  have hl2 : 1 < (dg y).length := dg_len_gt (k := 1) (by omega)
  obtain ⟨b1, o1, rfl, hb1, z1⟩ := S64.u64_at HB.out (k := (dg y).length - 1) (by omega)
  obtain ⟨dt, hdt⟩ : ∃ t, (dg y)[(dg y).length - 1]'(by omega) = t := ⟨_, rfl⟩
  rw [hdt] at z1
  obtain ⟨hF, hd0, hd9⟩ := scF (x := x) hy9 (fun _ => hdt)
  clear hdt
  obtain ⟨s, hs⟩ : ∃ s, 1000000000 / (dt + 1) = s := ⟨_, rfl⟩
  rw [hs] at hF
  obtain ⟨n, hn⟩ : ∃ l, (dg y).length = l := ⟨_, rfl⟩
  rw [hn] at hF
  have es : (1000000000 : Int) / ((dt : Int) + 1) = (s : Int) := by rw [← hs]; simp
  clear hs
  have HFF := Lib.hid hF
  have hs00 := hF.s0
  obtain ⟨la, hla⟩ : ∃ l, (dg x).length = l := ⟨_, rfl⟩
  have HLA := Lib.hid hla
  have HLN := Lib.hid hn
  rw [hla, hn] at HC
  rw [hn] at z1
  rw [hla, hn] at hll ⊢
  rw [hn] at hl2
  rw [hla] at hx
  have HCC := Lib.hid HC
  have hn0 : (0 : Int) ≤ (n : Int) - 1 := by omega
  have hnn1 : ((n : Int) == 1) = false := beq_eq_false_iff_ne.2 (by omega)
  have hs9 := HFF.out.s9
  have HZ : Hid (∀ W, Below w.heap.size w W → W.cell? ⟨b1, o1 + (n - 1), none⟩ = some (.int .u64 (dt : Int))) := fun W hW => (hW.cell (p := ⟨b1, o1 + (n - 1), none⟩) hb1).trans z1
  clear ha hb HC hcv z1 hla hn hF
  go_enter Tryz.func90, Tryz.ntmps90
  go_wp2_with fail
  refine HCC.out.mono ?_
  rintro e w1 ⟨rfl, hb⟩
  have HB1 := Lib.hid hb
  have hsz := hb.size
  clear hb
  have z3 := HZ.out w1 HB1.out
  have hb2 : b1 < w1.heap.size := by omega
  have HY9 := Lib.hid hy9
  clear hy9
  go_wp2_with fail
  obtain ⟨w2, hw2⟩ : ∃ W, w1.alloc (.cells #[.int .u64 (s : Int)] 157) = W := ⟨_, rfl⟩
  have HSC : Hid (NaIn w2 (some ⟨w1.heap.size, 0, none⟩) 1 s) := by
    have h := S64.of_own (l := [s]) (World.ownsRow_lit (base := 0) (e := 157) (size := 1) w1 #[.int .u64 (s : Int)] 1 (Nat.zero_le _) (by decide) rfl)
    show NaIn _ _ _ _
    unfold NaIn
    rw [dg_small hs00 hs9, ← hw2]
    exact h
  have HB2 : Hid (Below w.heap.size w w2) := by show Below _ _ _; rw [← hw2]; exact HB1.out.alloc hsz _
  have hls : (dg s).length = 1 := by rw [dg_small hs00 hs9]; rfl
  rw [hw2]
  clear hw2 z3
  have HT1 := timesO_ x s A (some ⟨w1.heap.size, 0, none⟩) c 1 w2 (HA.out.below HB2.out) HSC.out (by rw [HLA.out]; omega) (by omega)
  rw [HLA.out, hls] at HT1
  have HTT := Lib.hid HT1
  clear HT1
  refine HTT.out.mono ?_
  rintro e w3 ⟨UA, uc, rfl, hu, hb⟩
  have hsz2 := HB2.out.size
  have HB3 := Lib.hid (HB2.out.trans (hb.mono hsz2))
  have HD3 : Hid (Below w2.heap.size w2 w3) := hb
  have hsd3 := hb.size
  have HU := Lib.hid hu
  have HT2 := timesO_ y s (some ⟨b1, o1, none⟩) (some ⟨w1.heap.size, 0, none⟩) d 1 w3 (HB.out.below HB3.out) (HSC.out.below hb) (by rw [HLN.out]; omega) (by omega)
  rw [HLN.out, hls] at HT2
  have HTV := Lib.hid HT2
  clear HT2 hu hb HTT hls
  go_wp2_with fail
  refine HTV.out.mono ?_
  rintro e w4 ⟨VA, vc, rfl, hv, hb⟩
  have hsz3 := HB3.out.size
  have HB4 := Lib.hid (HD3.out.trans (hb.mono hsd3))
  have HU4 := Lib.hid (own_below HU.out (Nat.le_refl _) hb)
  have hult := HU.out.lt
  have HV4 := Lib.hid hv
  clear hv hb HTV HU
  rw [HFF.out.lv] at HV4
  rw [HFF.out.lv]
  obtain ⟨gv, cv2, hva⟩ := own_formU HV4.out (by omega)
  cases hva
  have hvlo := (HV4.out.lt gv rfl).1
  have hne : (Value.slice UA (dg (x * s)).length uc).ownBlock ≠ some gv := fun e => by have := (hult gv e).2; omega
  obtain ⟨v, hvv⟩ : ∃ l, dg (y * s) = l := ⟨_, rfl⟩
  rw [hvv] at HV4
  have HVV := Lib.hid hvv
  obtain ⟨u0, hu0⟩ : ∃ l, dg (x * s) = l := ⟨_, rfl⟩
  rw [hu0] at HU4 hne ⊢
  have HU0 := Lib.hid hu0
  clear hvv hu0 hult
  have HUM : Hid (w4.ownsRow w2.heap.size 157 1 (.slice UA u0.length uc) u0.length (u64s u0)) := HU4.out
  have HVM : Hid (w4.ownsRow w2.heap.size 157 1 (.slice (some ⟨gv, 0, none⟩) n vc) n (u64s v)) := own_more HV4.out hsd3
  clear HU4 HV4
  have HNE := Lib.hid hne
  clear hne
  go_wp2_with fail
  go_loopw [9] (fun z wr => UpRel w2 (x * s) la gv n vc v z wr) (fun z _ => match z with | .slice _ k _ => la + 1 - k | _ => 0)
  case atStart =>
    refine ⟨u0, UA, uc, rfl, by rw [← HU0.out]; exact dg_dg _, by rw [← HU0.out, val_dg], ?_, ?_, HUM, HVM, HNE.out, HB4⟩
    · have h := HFF.out.lu
      rw [HU0.out, HLA.out] at h
      exact h
    · have h := HFF.out.lu1
      rw [HU0.out, HLA.out] at h
      exact h
  case round =>
    obtain ⟨l, LA, lc, rfl, hld, hlv, hl0, hl1, HLU, HLV, hlne, HLB⟩ := hrel
    clear HUM HVM HNE
    have HLD := Lib.hid hld
    have HVL := Lib.hid hlv
    have HNE := Lib.hid hlne
    clear hld hlv hlne
    have hszr := HLB.out.size
    by_cases hlt : l.length ≤ la
    · have HR : Hid (u64s (l ++ [0]) = u64s l ++ [.int .u64 0]) := u64s_app l [0]
      go_wp2_with (at_builtin; go_must (refine wpList_append_lies _ rfl _ _ 67 rfl w2.heap.size 157 i0 (.int .u64 0) 1 8 Tryz.underlying67 hi hz0 hz1 hz2 rfl (by decide) (.slice LA l.length lc) l.length (u64s l) rfl (own_below HLU.out (Nat.le_refl _) ((Below.refl _ _).alloc (Nat.le_refl _) _)) _ 1 1 [.int .u64 0] rfl rfl (World.news_of_block (heap_alloc_new wr _)) (by intro u hu; rw [List.mem_singleton.1 hu]; rfl) (by decide) (by unfold maxLen; omega) (by omega) (by simp; omega) _ rfl ?_); intro g cap w6 hown6 hg6 hat6 hlt6; have z6 := hg6.size; (try simp at z6))
      have hgne : g ≠ gv := by
        have h1 := (own_lt HLV.out (g := gv) rfl).2
        rcases hat6 with h | h
        · intro e; subst e; exact HNE.out h
        · simp at h; omega
      have HV6 := Lib.hid (((own_below HLV.out (Nat.le_refl _) ((Below.refl _ _).alloc (Nat.le_refl _) (.cells #[.int .u64 0] 157))).kept hg6 (.inr (fun e => HNE.out e.symm))))
      have HB6 := Lib.hid ((HLB.out.alloc hszr _).grown hg6 (by simp; omega) (fun g h => (own_lt HLU.out h).1))
      have HO6 := Lib.hid hown6
      clear hg6 hown6 hat6
      go_roundw
      case rel =>
        refine ⟨l ++ [0], some ⟨g, 0, none⟩, cap, by simp, HLD.out.snoc (by omega), ?_, by simp; omega, by simp; omega, Lib.hid ?_, HV6, by simpa [Value.ownBlock] using hgne, HB6⟩
        · rw [val_app, HVL.out]; simp [val]
        · rw [HR.out, show (l ++ [(0 : Nat)]).length = l.length + 1 by simp]
          exact HO6.out
      case measure =>
        simp
        omega
    · obtain ⟨m, hm⟩ : ∃ m, l.length = n + m := ⟨l.length - n, by omega⟩
      have hmA : l.length ≤ n + m := by omega
      have hmB : n + m ≤ l.length := by omega
      have hm1 : 1 ≤ m := by omega
      have hm2 : m ≤ 524288 := by omega
      have HM := Lib.hid hm
      clear hm
      go_wp2_with (at_make; refine wpList_make_full _ rfl _ _ 67 rfl w2.heap.size 157 i0 (.int .u64 0) 1 Tryz.underlying67 hi hz0 hz1 _ _ _ _ m rfl rfl (by omega) (by omega) (by rw [hz2]; omega) (by unfold maxLen; omega) (by omega) ?_; intro w7 hown7 hg7)
      rw [made_u64] at hown7
      obtain ⟨gu, cu2, hua⟩ := own_formU HLU.out (by omega)
      cases hua
      have hgv7 := (own_lt HLV.out (g := gv) rfl).2
      have hgu7 := (own_lt HLU.out (g := gu) rfl).2
      have hugv : gu ≠ gv := fun e => HNE.out (by rw [e]; rfl)
      have HOV : Hid (OvW w2 gu lc gv vc wr.heap.size m l.length n m l v (List.replicate m 0) w7) :=
        ⟨HLU.out.kept hg7 (.inr (by simp [Value.ownBlock])), HLV.out.kept hg7 (.inr (by simp [Value.ownBlock])), hown7, HLB.out.grown hg7 hszr (fun g h => by cases h), hugv, by omega, by omega⟩
      obtain ⟨go, hgo⟩ : ∃ g, wr.heap.size = g := ⟨_, rfl⟩
      rw [hgo] at HOV ⊢
      clear hown7 hg7 hgv7 hgu7 hugv hgo HLU HLV HLB HNE HB1 HB3 HD3 HB4 HZ hszr hsz hsz3
      obtain ⟨L, hL⟩ : ∃ L, l.length = L := ⟨_, rfl⟩
      have HL := Lib.hid hL
      rw [hL] at HOV hmA hmB hl0 hl1 ⊢
      have hLa : la < L := by omega
      clear hL hlt
      go_wp2_with fail
      go_loopw [13] (fun i wz => OvRel w2 gu lc gv vc go m L n m (x * s) (y * s) v i wz) (fun i _ => (intOf i + 1).toNat)
      case atStart =>
        refine ⟨m, l, [], Nat.le_refl _, by go_num, DivI.start HLD.out HVL.out (by rw [HL.out]; omega) ?_ HFF.out.pw (by omega) hm1 hs00, by simp, by simpa using HOV.out⟩
        have h := dg_room x
        rw [HLA.out] at h
        rw [show n + m - 1 = la by omega]
        exact h
      case round =>
        obtain ⟨k, u, o, hk, rfl, hdi, hol, hov⟩ := hrel
        clear HOV
        have HDI := Lib.hid hdi
        have HOV := Lib.hid hov
        have HOL := Lib.hid hol
        clear hdi hov hol
        cases k with
        | zero =>
          have hvu := HDI.out.end_ hs00 (show 0 < y by have := HY9.out; omega)
          have hud := HDI.out.ds
          have hod := HDI.out.od
          have hul : u.length = L := own_lenU HOV.out.u
          have HVO := Lib.hid hvu.1
          have HVU := Lib.hid hvu.2
          have hO := HOV.out.o
          have hU := HOV.out.u
          rw [List.replicate_zero, List.nil_append] at hO
          have hom : o.length = m := own_lenU hO
          have HLU : Hid (∀ W, Below wr.heap.size wr W → Calls Tryz.prog 121 #[.slice (some ⟨gu, 0, none⟩) L lc] W fun e w' => e = .returned (.slice (some ⟨gu, 0, none⟩) (dg (val u)).length lc) ∧ u.take (dg (val u)).length = dg (val u) ∧ Below W.heap.size W w') := fun W hW => by
            have h := leanX_ u (some ⟨gu, 0, none⟩) lc W hud (by have h := S64.of_own (own_below hU (Nat.le_refl _) hW); rw [← hul] at h; exact h)
            rw [hul] at h
            exact h
          have HLO : Hid (∀ W, Below wr.heap.size wr W → Calls Tryz.prog 121 #[.slice (some ⟨go, 0, none⟩) m m] W fun e w' => e = .returned (.slice (some ⟨go, 0, none⟩) (dg (val o)).length m) ∧ o.take (dg (val o)).length = dg (val o) ∧ Below W.heap.size W w') := fun W hW => by
            have h := leanX_ o (some ⟨go, 0, none⟩) m W hod (by have h := S64.of_own (own_below hO (Nat.le_refl _) hW); rw [← hom] at h; rw [← hom]; exact h)
            rw [hom] at h
            exact h
          have HNU : Hid (∀ W, Below wr.heap.size wr W → u.take (dg (val u)).length = dg (val u) → NaIn W (some ⟨gu, 0, none⟩) lc (val u)) := fun W hW ht => by
            have hle : (dg (val u)).length ≤ L := by
              have := congrArg List.length ht
              rw [List.length_take] at this
              omega
            have h := own_takeU (own_below hU (Nat.le_refl _) hW) hle
            rw [ht] at h
            exact S64.of_own h
          have HNO : Hid (∀ W, Below wr.heap.size wr W → o.take (dg (val o)).length = dg (val o) → NaIn W (some ⟨go, 0, none⟩) m (val o)) := fun W hW ht => by
            have hle : (dg (val o)).length ≤ m := by
              have := congrArg List.length ht
              rw [List.length_take] at this
              omega
            have h := own_takeU (own_below hO (Nat.le_refl _) hW) hle
            rw [ht] at h
            exact S64.of_own h
          have HBB := Lib.hid HOV.out.b
          have hsb := HOV.out.b.size
          have hsc : wr.cell? ⟨w1.heap.size, 0, none⟩ = some (.int .u64 (s : Int)) := by
            obtain ⟨b, o', e, hb, hc⟩ := S64.u64_at (HSC.out.below HBB.out) (k := 0) (by rw [dg_small hs00 hs9]; simp)
            cases e
            have h9 : (dg s)[0]'(by rw [dg_small hs00 hs9]; simp) = s := by
              rw [getElem_congr_coll (dg_small hs00 hs9)]; rfl
            rw [h9] at hc
            exact hc
          have hlu9 : (dg (val u)).length ≤ 1048576 := by
            have h := dg_len_le (val_lt hud)
            omega
          have hw1l : w1.heap.size < wr.heap.size := cell_ltU hsc
          clear hvu hO hU HOV
          go_wp2_with fail
          go_region_held3 (fun w' => ∀ k o, k < wr.heap.size → w'.cell? ⟨k, o, none⟩ = wr.cell? ⟨k, o, none⟩) (first | exact kN | exact fun k o h => rfl)
            (first
              | (go_at_call 121; refine (HLU.out _ (by (repeat (first | exact Below.refl _ _ | assumption | refine below_drewN ?_ _ | refine Below.drew ?_ | refine Below.setCell ?_ (by first | omega | (simp; done) | (simp; omega)) _ | refine Below.alloc ?_ (by first | omega | (simp; done) | (simp; omega)) _)))).mono ?_; intro e w5 hnt; obtain ⟨he, ht, hb⟩ := hnt; subst he; have HT5 := Lib.hid ht; have HB5 : Hid (Below wr.heap.size wr w5) := (show Below wr.heap.size wr _ from (by (repeat (first | exact Below.refl _ _ | assumption | refine below_drewN ?_ _ | refine Below.drew ?_ | refine Below.setCell ?_ (by first | omega | (simp; done) | (simp; omega)) _ | refine Below.alloc ?_ (by first | omega | (simp; done) | (simp; omega)) _)))).trans (hb.mono (by first | omega | (simp; done) | (simp; omega))); have kN := (fun k o (h : k < wr.heap.size) => (HB5.out).cell (p := ⟨k, o, none⟩) h); clear ht hb)
              | (go_at_call 124; refine (short_ (val u) s _ _ _ (HNU.out _ (HB5.out.trans ((show Below w5.heap.size w5 _ from (by (repeat (first | exact Below.refl _ _ | assumption | refine below_drewN ?_ _ | refine Below.drew ?_ | refine Below.setCell ?_ (by first | omega | (simp; done) | (simp; omega)) _ | refine Below.alloc ?_ (by first | omega | (simp; done) | (simp; omega)) _)))).mono HB5.out.size)) HT5.out) hs00 hs9 hlu9).mono ?_; intro e w6 hnt; obtain ⟨R, rc, he, hr, hb⟩ := hnt; subst he; have HR := Lib.hid hr; have HB6 : Hid (Below wr.heap.size wr w6) := (HB5.out.trans ((show Below w5.heap.size w5 _ from (by (repeat (first | exact Below.refl _ _ | assumption | refine below_drewN ?_ _ | refine Below.drew ?_ | refine Below.setCell ?_ (by first | omega | (simp; done) | (simp; omega)) _ | refine Below.alloc ?_ (by first | omega | (simp; done) | (simp; omega)) _)))).mono HB5.out.size)).trans (hb.mono (by have := HB5.out.size; first | omega | (simp; omega))); have kN := (fun k o (h : k < wr.heap.size) => (HB6.out).cell (p := ⟨k, o, none⟩) h); clear hr hb))
          go_wp2_with fail
          have hs6 := HB6.out.size
          refine (HLO.out _ HB6.out).mono ?_
          rintro e w7 ⟨rfl, ht, hb⟩
          have HT7 := Lib.hid ht
          have HR7 := Lib.hid (HR.out.below hb)
          have HB7 := Lib.hid (HB6.out.trans (hb.mono hs6))
          clear ht hb
          go_wp2_with fail
          go_ret2
          have hres := HNO.out _ HB7.out HT7.out
          have e2 : val u / s = x % y := by rw [HVU.out]; exact Nat.mul_div_cancel _ hs00
          refine ⟨some ⟨go, 0, none⟩, m, R, rc, ?_, ?_, ?_, ?_⟩
          · rw [← HVO.out, ← e2]
            rfl
          · rw [← HVO.out]; exact hres
          · rw [← e2]; exact HR7.out
          · exact HB2.out.trans ((HBB.out.trans (HB7.out.mono hsb)).mono hsz2)
        | succ k =>
          have e0 : ((k + 1 : Nat) : Int) - 1 = (k : Int) := by omega
          rw [e0]
          clear e0
          have HLN2 : Hid (∀ z : Nat, (z :: o).length = m - k) := fun z => by have := HOL.out; simp; omega
          have hlen := HDI.out.len
          have hvl : v.length = n := own_lenU HOV.out.v
          have hul : u.length = L := own_lenU HOV.out.u
          have hVD : Hid (DG v) := by show DG v; rw [← HVV.out]; exact dg_dg _
          have hVV : Hid (val v = y * s) := by show val v = y * s; rw [← HVV.out, val_dg]
          have hh : 1000000000 ≤ 2 * (v[n - 1]'(by omega)) := by
            obtain ⟨h1, h2⟩ := HFF.out.half
            rw [getElem_congr_coll HVV.out.symm]
            exact h2
          have HQN := Lib.hid (HDI.out.tops hVD.out (by omega) hvl hVV.out hh)
          obtain ⟨c0, -, hg0⟩ := own_atU HOV.out.u (k := k + n) (by omega)
          obtain ⟨c1, -, -⟩ := own_atU HOV.out.u (k := k + (n - 1)) (by omega)
          obtain ⟨c2, -, -⟩ := own_atU HOV.out.u (k := k + (n - 2)) (by omega)
          obtain ⟨d1, -, hg1⟩ := own_atU HOV.out.v (k := n - 1) (by omega)
          obtain ⟨d2, -, -⟩ := own_atU HOV.out.v (k := n - 2) (by omega)
          obtain ⟨a0, ha0⟩ : ∃ a, u[k + n]'(by omega) = a := ⟨_, rfl⟩
          obtain ⟨a1, ha1⟩ : ∃ a, u[k + (n - 1)]'(by omega) = a := ⟨_, rfl⟩
          obtain ⟨a2, ha2⟩ : ∃ a, u[k + (n - 2)]'(by omega) = a := ⟨_, rfl⟩
          obtain ⟨v1, hv1⟩ : ∃ a, v[n - 1]'(by omega) = a := ⟨_, rfl⟩
          obtain ⟨v2, hv2⟩ : ∃ a, v[n - 2]'(by omega) = a := ⟨_, rfl⟩
          rw [ha0] at c0 HQN
          rw [ha1] at c1 HQN
          rw [ha2] at c2 HQN
          rw [hv1] at d1 HQN hh
          rw [hv2] at d2 HQN
          obtain ⟨kn, hkn⟩ : ∃ t, k + n = t := ⟨_, rfl⟩
          obtain ⟨t1, ht1⟩ : ∃ t, k + (n - 1) = t := ⟨_, rfl⟩
          obtain ⟨t2, ht2⟩ : ∃ t, k + (n - 2) = t := ⟨_, rfl⟩
          obtain ⟨m1, hm1'⟩ : ∃ t, n - 1 = t := ⟨_, rfl⟩
          obtain ⟨m2, hm2'⟩ : ∃ t, n - 2 = t := ⟨_, rfl⟩
          rw [hkn] at c0
          rw [ht1] at c1
          rw [ht2] at c2
          rw [hm1'] at d1
          rw [hm2'] at d2
          have eA : (k : Int) + (n : Int) = (kn : Int) := by omega
          have eB : IntKind.i64.wrap (kn : Int) = (kn : Int) := IntWalk.i64_in _ (by omega)
          have eC : (kn : Int) - 1 = (t1 : Int) := by omega
          have eD : IntKind.i64.wrap (t1 : Int) = (t1 : Int) := IntWalk.i64_in _ (by omega)
          have eE : (kn : Int) - 2 = (t2 : Int) := by omega
          have eF : IntKind.i64.wrap (t2 : Int) = (t2 : Int) := IntWalk.i64_in _ (by omega)
          have eG : (n : Int) - 1 = (m1 : Int) := by omega
          have eH : IntKind.i64.wrap (m1 : Int) = (m1 : Int) := IntWalk.i64_in _ (by omega)
          have eI : (n : Int) - 2 = (m2 : Int) := by omega
          have eJ : IntKind.i64.wrap (m2 : Int) = (m2 : Int) := IntWalk.i64_in _ (by omega)
          have b0 : kn < L := by omega
          have b1' : t1 < L := by omega
          have b2' : t2 < L := by omega
          have b3 : m1 < n := by omega
          have b4 : m2 < n := by omega
          have HKN := Lib.hid hkn
          have HM1 := Lib.hid hm1'
          have q0 := HQN.out.d0
          have q1 := HQN.out.d1
          have q2 := HQN.out.d2
          have q3 := HQN.out.e1
          have q4 := HQN.out.e2
          have hv1p : 0 < v1 := by omega
          clear hkn ht1 ht2 hm1' hm2' ha0 ha1 ha2 hv1 hv2 hh
          obtain ⟨tp, htp⟩ : ∃ t, a0 * 1000000000 + a1 = t := ⟨_, rfl⟩
          have htp9 : tp < 1000000000000000000 := by omega
          have HQI := HQN.out.start
          rw [htp] at HQI
          obtain ⟨x0, hx0⟩ : ∃ t, tp / v1 = t := ⟨_, rfl⟩
          obtain ⟨r0, hr0⟩ : ∃ t, tp % v1 = t := ⟨_, rfl⟩
          rw [hx0, hr0] at HQI
          have HQ0 := Lib.hid HQI
          have hr9 : r0 < 1000000000 := by rw [← hr0]; exact Nat.lt_trans (Nat.mod_lt _ hv1p) q3
          obtain ⟨p0, hp0⟩ : ∃ t, a0 * 1000000000 = t := ⟨_, rfl⟩
          have fA : (a0 : Int) * 1000000000 = (p0 : Int) := by omega
          have fB : IntKind.u64.wrap (p0 : Int) = (p0 : Int) := u64wrap (by omega) (by omega)
          have fC : (p0 : Int) + (a1 : Int) = (tp : Int) := by omega
          have fD : IntKind.u64.wrap (tp : Int) = (tp : Int) := u64wrap (by omega) (by omega)
          have fE : (tp : Int).tdiv (v1 : Int) = (x0 : Int) := by rw [← hx0]; rfl
          have fF : (tp : Int).tmod (v1 : Int) = (r0 : Int) := by rw [← hr0]; rfl
          have hx9 := HQ0.out.top
          have fG : IntKind.u64.wrap (x0 : Int) = (x0 : Int) := u64wrap (by omega) (by omega)
          have fH : IntKind.u64.wrap (r0 : Int) = (r0 : Int) := u64wrap (by omega) (by omega)
          have hv1n : ((v1 : Int) == 0) = false := by simp; omega
          clear hx0 hr0 hp0 htp HQI hx9
          obtain ⟨T, hT⟩ : ∃ T, val (u.drop k) = T := ⟨_, rfl⟩
          rw [hT] at HQN HQ0
          have HT := Lib.hid hT
          clear hT
          obtain ⟨V, hV⟩ : ∃ V, y * s = V := ⟨_, rfl⟩
          rw [hV] at HQN HQ0
          have HVE := Lib.hid hV
          clear hV
          go_wp2_with fail
          go_quiet (fail)
          go_wp2_with fail
          go_quiet (fail)
          go_upto_block 4 with fail
          clear eC eD fA fB fC fD fE fF fG fH c0 c1
          go_cut [15] from 113 to 145 (fun q wz => QEnd T V wr q wz)
          case first =>
            go_wp2_with fail
            go_loopw [15, 16] (fun q r wz => QRel T V a0 a1 v1 wr q r wz) (fun q _ _ => (intOf q).toNat)
            case atStart => exact ⟨x0, r0, rfl, rfl, hr9, HQ0.out, Lib.hid (below_drewN (below_drewN (Below.refl _ _) _) _)⟩
            case round =>
              obtain ⟨g, r, rfl, rfl, hr9, hqi, HBZ⟩ := hrel
              have HQI := Lib.hid hqi
              have hg9 := hqi.top
              have c2' := (HBZ.out.cell (p := ⟨gu, t2, none⟩) hg0).trans c2
              have d1' := (HBZ.out.cell (p := ⟨gv, m1, none⟩) hg1).trans d1
              have d2' := (HBZ.out.cell (p := ⟨gv, m2, none⟩) hg1).trans d2
              have hszz := HBZ.out.size
              have hgu2 : gu < wr.heap.size := by omega
              have hgv2 : gv < wr.heap.size := by omega
              clear hqi HQ0 c2 d1 d2
              by_cases hq : 1000000000 ≤ g
              · obtain ⟨hg0', hn⟩ := HQI.out.less (HQN.out.gtB hq)
                have hd3 : decide ((1000000000 : Int) ≤ (g : Int)) = true := by simp; omega
                have HN := Lib.hid hn
                obtain ⟨g1, hg1'⟩ : ∃ t, g - 1 = t := ⟨_, rfl⟩
                obtain ⟨r1, hr1⟩ : ∃ t, r + v1 = t := ⟨_, rfl⟩
                rw [hg1', hr1] at HN
                have kA : (g : Int) - 1 = (g1 : Int) := by omega
                have kB : (r : Int) + (v1 : Int) = (r1 : Int) := by omega
                have hr1' : r1 < 2000000000 := by omega
                clear hg1' hr1 hn HQI
                go_wp2_with fail
                go_quiet (fail)
                by_cases hb9 : 1000000000 ≤ r1
                · have hd6 : decide ((1000000000 : Int) ≤ (r1 : Int)) = true := by simp; omega
                  have HB9 := Lib.hid hb9
                  clear hb9 hd3
                  go_wp2_with fail
                  go_meet
                  case rel => exact ⟨g1, rfl, HQN.out.broke HN.out HB9.out, Lib.hid (below_drewN HBZ.out _)⟩
                · have hd6 : decide ((1000000000 : Int) ≤ (r1 : Int)) = false := by simp; omega
                  have HB9 := Lib.hid hb9
                  clear hb9 hd3
                  go_wp2_with fail
                  go_roundw
                  case rel => exact ⟨g1, r1, rfl, rfl, by have := HB9.out; omega, HN.out, Lib.hid (below_drewN HBZ.out _)⟩
                  case measure => simp [intOf]; omega
              · obtain ⟨gv2, hgv2'⟩ : ∃ t, g * v2 = t := ⟨_, rfl⟩
                obtain ⟨rb, hrb⟩ : ∃ t, r * 1000000000 = t := ⟨_, rfl⟩
                obtain ⟨rs, hrs⟩ : ∃ t, rb + a2 = t := ⟨_, rfl⟩
                have gm : gv2 ≤ 999999999 * 999999999 := by rw [← hgv2']; exact Nat.mul_le_mul (by omega) (by omega)
                have jA : (g : Int) * (v2 : Int) = (gv2 : Int) := by rw [← hgv2']; exact (Int.natCast_mul g v2).symm
                have jB : IntKind.u64.wrap (gv2 : Int) = (gv2 : Int) := u64wrap (by omega) (by omega)
                have jC : (r : Int) * 1000000000 = (rb : Int) := by omega
                have jD : IntKind.u64.wrap (rb : Int) = (rb : Int) := u64wrap (by omega) (by omega)
                have jE : (rb : Int) + (a2 : Int) = (rs : Int) := by omega
                have jF : IntKind.u64.wrap (rs : Int) = (rs : Int) := u64wrap (by omega) (by omega)
                have hd3 : decide ((1000000000 : Int) ≤ (g : Int)) = false := by simp; omega
                by_cases hc : rs < gv2
                · obtain ⟨hg0', hn⟩ := HQI.out.less (HQN.out.gt2 HQI.out.eq (by omega))
                  have hd4 : decide ((gv2 : Int) > (rs : Int)) = true := by simp; omega
                  have hd5 : decide (rs < gv2) = true := by simp; omega
                  clear hgv2' hrb hrs
                  have HN := Lib.hid hn
                  obtain ⟨g1, hg1'⟩ : ∃ t, g - 1 = t := ⟨_, rfl⟩
                  obtain ⟨r1, hr1⟩ : ∃ t, r + v1 = t := ⟨_, rfl⟩
                  rw [hg1', hr1] at HN
                  have kA : (g : Int) - 1 = (g1 : Int) := by omega
                  have kB : (r : Int) + (v1 : Int) = (r1 : Int) := by omega
                  have hr1' : r1 < 2000000000 := by omega
                  clear hg1' hr1 hn HQI
                  go_wp2_with fail
                  go_quiet (fail)
                  by_cases hb9 : 1000000000 ≤ r1
                  · have hd6 : decide ((1000000000 : Int) ≤ (r1 : Int)) = true := by simp; omega
                    have HB9 := Lib.hid hb9
                    clear hb9 hd3
                    go_wp2_with fail
                    go_meet
                    case rel => exact ⟨g1, rfl, HQN.out.broke HN.out HB9.out, Lib.hid (below_drewN HBZ.out _)⟩
                  · have hd6 : decide ((1000000000 : Int) ≤ (r1 : Int)) = false := by simp; omega
                    have HB9 := Lib.hid hb9
                    clear hb9 hd3
                    go_wp2_with fail
                    go_roundw
                    case rel => exact ⟨g1, r1, rfl, rfl, by have := HB9.out; omega, HN.out, Lib.hid (below_drewN HBZ.out _)⟩
                    case measure => simp [intOf]; omega
                · have HD := Lib.hid (HQN.out.done HQI.out (by omega) (by omega))
                  have hd4 : decide ((gv2 : Int) > (rs : Int)) = false := by simp; omega
                  have hd5 : decide (rs < gv2) = false := by simp; omega
                  clear hgv2' hrb hrs HQI
                  go_wp2_with fail
                  go_quiet (fail)
                  go_wp2_with fail
                  go_meet
                  case rel => exact ⟨g, rfl, HD.out, Lib.hid (below_drewN HBZ.out _)⟩
          case rest =>
            rename World => wc
            obtain ⟨q, rfl, hqd, HBC⟩ := hcut
            have HQD := Lib.hid hqd
            have HOC := Lib.hid (HOV.out.below HBC.out)
            have hqd9 := hqd.d
            have hudg := HDI.out.ds
            clear hqd HOV HQ0 HQN c2 d1 d2 HBC hg0 hg1 eB eE eF eG eH eI eJ
            go_wp2_with fail
            go_loopw [148, 17] (fun i b wz => MsRel w2 gu lc gv vc go m L n m u v (List.replicate (k + 1) 0 ++ o) q k i b wz) (fun i _ _ => n - (intOf i).toNat)
            case atStart => exact ⟨0, 0, u, Nat.zero_le _, rfl, rfl, MsI.start hudg q k, HOC.out⟩
            case round =>
              obtain ⟨j, c', pp, hj, rfl, rfl, hms, hov⟩ := hrel
              have HMS := Lib.hid hms
              have HOZ := Lib.hid hov
              have hcq := hms.car
              have hpl : pp.length = L := own_lenU hov.u
              clear hms hov HOC
              by_cases hlt : j < n
              · obtain ⟨c0, f0, hg0⟩ := own_atU HOZ.out.u (k := k + j) (by omega)
                obtain ⟨d1, -, hg1⟩ := own_atU HOZ.out.v (k := j) (by omega)
                have hmc := ms_car hcq (hVD.out.at (show j < v.length by omega))
                have HPL : Hid ((c' + q * v[j]'(by omega)) % 1000000000 ≤ pp[k + j]'(by omega) → MsI u v q k (j + 1) (pp.set (k + j) (pp[k + j]'(by omega) - (c' + q * v[j]'(by omega)) % 1000000000)) ((c' + q * v[j]'(by omega)) / 1000000000)) := fun h => HMS.out.plain hVD.out (by omega) (by omega) h
                have HLE : Hid (pp[k + j]'(by omega) < (c' + q * v[j]'(by omega)) % 1000000000 → MsI u v q k (j + 1) (pp.set (k + j) (pp[k + j]'(by omega) + 1000000000 - (c' + q * v[j]'(by omega)) % 1000000000)) ((c' + q * v[j]'(by omega)) / 1000000000 + 1)) := fun h => HMS.out.lent hVD.out (by omega) (by omega) h
                have hy9 := hVD.out.at (show j < v.length by omega)
                have hp9 := HMS.out.ds.at (show k + j < pp.length by omega)
                obtain ⟨y9, hy⟩ : ∃ t, v[j]'(by omega) = t := ⟨_, rfl⟩
                obtain ⟨pd, hpd⟩ : ∃ t, pp[k + j]'(by omega) = t := ⟨_, rfl⟩
                obtain ⟨kj, hkj⟩ : ∃ t, k + j = t := ⟨_, rfl⟩
                rw [hy] at d1 hmc HPL HLE hy9
                rw [hpd] at c0 HPL HLE hp9
                rw [hkj] at c0 f0 HPL HLE
                obtain ⟨qy, hqy⟩ : ∃ t, q * y9 = t := ⟨_, rfl⟩
                rw [hqy] at hmc HPL HLE
                obtain ⟨cq, hcq2⟩ : ∃ t, c' + qy = t := ⟨_, rfl⟩
                rw [hcq2] at hmc HPL HLE
                have hcq9 : cq < 1000000000000000000 := by omega
                obtain ⟨low, hlow⟩ : ∃ t, cq % 1000000000 = t := ⟨_, rfl⟩
                obtain ⟨hi, hhi⟩ : ∃ t, cq / 1000000000 = t := ⟨_, rfl⟩
                rw [hlow, hhi] at HPL HLE
                have eK : (k : Int) + (j : Int) = (kj : Int) := by omega
                have eQ : (q : Int) * (y9 : Int) = (qy : Int) := by rw [← hqy]; exact (Int.natCast_mul q y9).symm
                have eS : (c' : Int) + (qy : Int) = (cq : Int) := by omega
                have eM : (cq : Int) % 1000000000 = (low : Int) := by omega
                have eN : (cq : Int) / 1000000000 = (hi : Int) := by omega
                have hqy9 : qy < 1000000000000000000 := by omega
                have hlow9 : low < 1000000000 := by omega
                have hhi9 : hi < 1000000000 := by omega
                have hkjL : kj < L := by omega
                have HKJ := Lib.hid hkj
                clear hy hpd hkj hqy hcq2 hlow hhi hmc
                by_cases hln : pd < low
                · have HN := Lib.hid (HLE.out hln)
                  obtain ⟨pb, hpb⟩ : ∃ t, pd + 1000000000 = t := ⟨_, rfl⟩
                  rw [hpb] at HN
                  obtain ⟨nd, hnd⟩ : ∃ t, pb - low = t := ⟨_, rfl⟩
                  rw [hnd] at HN
                  obtain ⟨h1, hh1⟩ : ∃ t, hi + 1 = t := ⟨_, rfl⟩
                  rw [hh1] at HN
                  have eP : (pd : Int) + 1000000000 = (pb : Int) := by omega
                  have eR : (pb : Int) - (low : Int) = (nd : Int) := by omega
                  have eT : (hi : Int) + 1 = (h1 : Int) := by omega
                  have hl2 : (pd : Int) < (low : Int) := by omega
                  have hpb9 : pb < 2000000000 := by omega
                  clear hpb hnd hh1 HPL HLE
                  go_wp2_with fail
                  go_roundw
                  case rel =>
                    have h := (HOZ.out.setU kj pb).setU kj nd
                    rw [List.set_set] at h
                    exact ⟨j + 1, h1, _, by omega, by go_num, rfl, HN.out, h⟩
                  case measure => simp [intOf]; omega
                · have HN := Lib.hid (HPL.out (by omega))
                  obtain ⟨nd, hnd⟩ : ∃ t, pd - low = t := ⟨_, rfl⟩
                  rw [hnd] at HN
                  have eR : (pd : Int) - (low : Int) = (nd : Int) := by omega
                  have hl2 : ¬ (pd : Int) < (low : Int) := by omega
                  clear hnd HPL HLE
                  go_wp2_with fail
                  go_roundw
                  case rel => exact ⟨j + 1, hi, _, by omega, by go_num, rfl, HN.out, HOZ.out.setU kj nd⟩
                  case measure => simp [intOf]; omega
              · obtain rfl : j = n := by omega
                obtain ⟨c0, f0, hg0⟩ := own_atU HOZ.out.u (k := k + j) (by omega)
                obtain ⟨o0, of0, hg2⟩ := own_atU HOZ.out.o (k := k) (by have := own_lenU HOZ.out.o; omega)
                have hp9 := HMS.out.ds.at (show k + j < pp.length by omega)
                have hQ : Hid (QD (val (u.drop k)) (y * s) q) := by show QD _ _ _; rw [HT.out, HVE.out]; exact HQD.out
                have HFI : Hid (c' ≤ pp[k + j]'(by omega) → DivI (x * s) (y * s) j k (pp.set (k + j) (pp[k + j]'(by omega) - c')) (q :: o)) := fun h => HDI.out.fits hvl hVV.out hQ.out HMS.out (by omega) h
                obtain ⟨pd, hpd⟩ : ∃ t, pp[k + j]'(by omega) = t := ⟨_, rfl⟩
                rw [hpd] at c0 hp9 HFI
                have HBK : Hid (∀ (t : List Nat) (e : Nat) (hj2 : k + j < t.length), pd < c' → BaI (pp.set (k + j) (pd + 1000000000 - c')) v k j t e → 0 < q ∧ DivI (x * s) (y * s) j k (t.set (k + j) ((t[k + j] + e) % 1000000000)) ((q - 1) :: o)) :=
                  fun t e hj2 h hb => HDI.out.back hVD.out hvl hVV.out hQ.out HMS.out (by omega) (by rw [hpd]; exact h) (by rw [hpd]; exact hb) hj2
                have hkn : k + j = kn := HKN.out
                rw [hkn] at c0 f0 HFI
                have huo := HOZ.out.uo
                have huo' : go ≠ gu := fun e => huo e.symm
                have hkm : k < m := by omega
                clear hpd hkn hlt
                by_cases hfit : c' ≤ pd
                · have HN := Lib.hid (HFI.out hfit)
                  obtain ⟨nd, hnd⟩ : ∃ t, pd - c' = t := ⟨_, rfl⟩
                  rw [hnd] at HN
                  have eR : (pd : Int) - (c' : Int) = (nd : Int) := by omega
                  have hl2 : (c' : Int) ≤ (pd : Int) := by omega
                  clear hnd HFI HBK
                  go_wp2_with fail
                  go_roundw
                  case rel =>
                    have h := (HOZ.out.setU kn nd).setO k q
                    rw [set_top] at h
                    exact ⟨k, _, q :: o, Nat.le_of_lt hkm, rfl, HN.out, HLN2.out q, h⟩
                  case measure => first | (simp [intOf]; done) | (simp [intOf]; omega)
                · obtain ⟨pb, hpb⟩ : ∃ t, pd + 1000000000 = t := ⟨_, rfl⟩
                  obtain ⟨nd, hnd⟩ : ∃ t, pb - c' = t := ⟨_, rfl⟩
                  rw [hpb, hnd] at HBK
                  have eP : (pd : Int) + 1000000000 = (pb : Int) := by omega
                  have eR : (pb : Int) - (c' : Int) = (nd : Int) := by omega
                  have hl2 : ¬ (c' : Int) ≤ (pd : Int) := by omega
                  have hpb9 : pb < 2000000000 := by omega
                  have hnd9 : nd < 1000000000 := by omega
                  clear hpb hnd HFI
                  go_wp2_with fail
                  go_loopw [227, 21] (fun i b wz => BaRel w2 gu lc gv vc go m L j m (pp.set kn nd) v (List.replicate (k + 1) 0 ++ o) k i b wz) (fun i _ _ => j - (intOf i).toNat)
                  case atStart => exact ⟨0, 0, _, Nat.zero_le _, rfl, rfl, BaI.start (HMS.out.ds.set _ hnd9) v k, HOZ.out.setU kn nd⟩
                  case round =>
                    obtain ⟨i, e, tt, hi', rfl, rfl, hba, hov⟩ := hrel
                    have HBA := Lib.hid hba
                    have HOY := Lib.hid hov
                    have hce := hba.car
                    have htl : tt.length = L := own_lenU hov.u
                    clear hba hov HOZ c0 f0 o0 of0 hg0 hg2
                    by_cases hlt : i < j
                    · obtain ⟨c0, f0, hg0⟩ := own_atU HOY.out.u (k := k + i) (by omega)
                      obtain ⟨d1, -, hg1⟩ := own_atU HOY.out.v (k := i) (by omega)
                      have hy9 := hVD.out.at (show i < v.length by omega)
                      have ht9 := HBA.out.ds.at (show k + i < tt.length by omega)
                      have HN := Lib.hid (HBA.out.step hVD.out (show i < v.length by omega) (show k + i < tt.length by omega))
                      obtain ⟨y9, hy⟩ : ∃ t, v[i]'(by omega) = t := ⟨_, rfl⟩
                      obtain ⟨td, htd⟩ : ∃ t, tt[k + i]'(by omega) = t := ⟨_, rfl⟩
                      obtain ⟨ki, hki⟩ : ∃ t, k + i = t := ⟨_, rfl⟩
                      rw [hy] at d1 hy9 HN
                      rw [htd] at c0 ht9 HN
                      rw [hki] at c0 f0 HN
                      obtain ⟨sm, hsm⟩ : ∃ t, e + (td + y9) = t := ⟨_, rfl⟩
                      rw [hsm] at HN
                      obtain ⟨low, hlow⟩ : ∃ t, sm % 1000000000 = t := ⟨_, rfl⟩
                      obtain ⟨hi2, hhi⟩ : ∃ t, sm / 1000000000 = t := ⟨_, rfl⟩
                      rw [hlow, hhi] at HN
                      have eK : (k : Int) + (i : Int) = (ki : Int) := by omega
                      have eS : (e : Int) + ((td : Int) + (y9 : Int)) = (sm : Int) := by omega
                      have eM : (sm : Int) % 1000000000 = (low : Int) := by omega
                      have eN : (sm : Int) / 1000000000 = (hi2 : Int) := by omega
                      have hsm9 : sm < 3000000000 := by omega
                      have hkiL : ki < L := by omega
                      clear hy htd hki hsm hlow hhi
                      go_wp2_with fail
                      go_roundw
                      case rel => exact ⟨i + 1, hi2, _, by omega, by go_num, rfl, HN.out, HOY.out.setU ki low⟩
                      case measure => simp [intOf]; omega
                    · obtain rfl : i = j := by omega
                      obtain ⟨c0, f0, hg0⟩ := own_atU HOY.out.u (k := k + i) (by omega)
                      obtain ⟨o0, of0, hg2⟩ := own_atU HOY.out.o (k := k) (by have := own_lenU HOY.out.o; omega)
                      have ht9 := HBA.out.ds.at (show k + i < tt.length by omega)
                      have hkn : k + i = kn := HKN.out
                      obtain ⟨hq0, hn⟩ := HBK.out tt e (by omega) (by omega) (by rw [hkn]; exact HBA.out)
                      have HN := Lib.hid hn
                      obtain ⟨td, htd⟩ : ∃ t, tt[k + i]'(by omega) = t := ⟨_, rfl⟩
                      rw [htd] at c0 ht9 HN
                      rw [hkn] at c0 f0 HN
                      obtain ⟨sm, hsm⟩ : ∃ t, td + e = t := ⟨_, rfl⟩
                      rw [hsm] at HN
                      obtain ⟨low, hlow⟩ : ∃ t, sm % 1000000000 = t := ⟨_, rfl⟩
                      obtain ⟨q1', hq1⟩ : ∃ t, q - 1 = t := ⟨_, rfl⟩
                      rw [hlow, hq1] at HN
                      have eS : (td : Int) + (e : Int) = (sm : Int) := by omega
                      have eM : (sm : Int) % 1000000000 = (low : Int) := by omega
                      have eQ : (q : Int) - 1 = (q1' : Int) := by omega
                      have hsm9 : sm < 3000000000 := by omega
                      clear htd hkn hsm hlow hq1 hn HBK
                      go_wp2_with fail
                      go_roundw
                      case rel =>
                        have h := (HOY.out.setU kn low).setO k q1'
                        rw [set_top] at h
                        exact ⟨k, _, q1' :: o, Nat.le_of_lt hkm, rfl, HN.out, HLN2.out q1', h⟩
                      case measure => first | (simp [intOf]; done) | (simp [intOf]; omega)
end Go.Proofs.YtpphnnijnnfngaaGreatDoor
