/-
  The walk of the watch's sees.
-/
import Derived.Test.YtpphnnijnnfngaaGreatDoorW19
import Derived.Deep.Cut
import Derived.Test.YtpphnnijnnfngaaGreatDoorW02
namespace Go.Proofs.YtpphnnijnnfngaaGreatDoor
open Go.RowKit Al

theorem zeroSl (w : World) : (zeroValue 48).run Tryz.prog w = .ok (.slice none 0 0) w := by kernel_rfl
theorem isKey2 (k : Fin 32) : WideAt.IsKeyLit (mk2 k) := by
  unfold mk2
  trivial
set_option maxRecDepth 100000 in
theorem wpList_mapUpdate_ws {w : World} {ops : Array Oper} {rest : List Oper} {o : Oper} {a : Act} {Q : Exit → Act → World → Prop} (hg : o.guard = none) (m x v : Operand) (hop : o.op = Op.mapUpdate 139 m x v)
    (mb n c : Nat) (f : Fin 32 → Option Value) (hmap : QapK 142 mk2 w mb n c f) (hn : n < maxLen) (hm : a.eval m = .map (some mb)) (k : Fin 32) (key : Value) (hkey : keyOf Tryz.prog 142 key = some (mk2 k)) (hx : a.eval x = key) (u : Value) (hv : a.eval v = u)
    (hK : ∀ w', QapK 142 mk2 w' mb (n + 1) (if (f k).isSome then c else c + 1) (fun j => if j = k then some u else f j) → w.grownBy w' (some mb) → wpList Tryz.prog ops Q rest (a.put o.dst undef) w') : wpList Tryz.prog ops Q (o :: rest) a w := by
  refine wpList_plain hg fun K' hK' => ?_
  obtain ⟨w', hrun, r1, r2⟩ := hmap.put keyLaw2 Tryz.underlying139 hn hkey (fun u h => mk2_inj h) (isKey2 k) u
  unfold Oper.wp
  simp [execOp, hop, hm, hx, hv, hrun, Result.andThen]
  exact hK' _ _ (hK w' r1 r2)
/-- What sees hands back: cells, and the watch as it is then. -/
def SeesT (W : World) (R : Nat → Prop) (B0 wb mb : Nat) (LA : Option Addr) (lc : Nat) (L : List Scp) (n : Int) (N : Nat) (l : List Int) (e : Ending) (W' : World) : Prop :=
  ∃ v f', e = .returned v ∧ SeesV W' R mb l v ∧ WAt W' R B0 wb mb LA lc L n N f' ∧ W.grownBy W' (some mb)
set_option maxRecDepth 100000 in
set_option maxHeartbeats 4000000 in
theorem sees_ (R : Nat → Prop) (B0 wb mb : Nat) (LA : Option Addr) (lc : Nat) (L : List Scp) (n : Int) (h1 : 1 ≤ n) (h8 : n ≤ 8) (N : Nat) (hN : (N : Int) = 6 * (n * n)) (f : Fin 32 → Option Value) (k : Fin 32) (x : Scp) (hx : L[k.1 % 4]? = some x) (ht : k.1 / 4 < x.zs.length) (W : World) (hW : WAt W R B0 wb mb LA lc L n N f) (hR : ∀ r, R r → r < W.heap.size) :
    Calls Tryz.prog 44 #[.pointer (some ⟨wb, 0, none⟩), .int .i64 ((k.1 / 4 : Nat) : Int), .int .i64 ((k.1 % 4 : Nat) : Int)] W (SeesT W R B0 wb mb LA lc L n N (seesX n N x (k.1 / 4))) := by
  have HW := Lib.hid hW
  have HR := Lib.hid hR
  have c0 := hW.c0
  have c1 := hW.c1
  have c2 := hW.c2
  have hwl := hW.lt
  have hml : mb < W.heap.size := by obtain ⟨c, hm⟩ := hW.mp; exact hm.lt
  have HLK : Hid (∀ W', Below W.heap.size W W' → (Instr.lookup 139 (.map (some mb)) (.agg #[.int .i64 ((k.1 / 4 : Nat) : Int), .int .i64 ((k.1 % 4 : Nat) : Int)]) true).run Tryz.prog W' = .ok (.tuple #[(f k).getD (.slice none 0 0), .bool (f k).isSome]) W') := fun W' hb => by
    obtain ⟨c, hm⟩ := hW.mp
    exact (hm.below hb).lookOk keyLaw2 Tryz.underlying139 (zeroSl W') (key2_mk k)
  have hsl : k.1 % 4 < L.length := (List.getElem?_eq_some_iff.1 hx).1
  have hxm : x ∈ L := List.mem_of_getElem? hx
  have hxe : L[k.1 % 4] = x := (List.getElem?_eq_some_iff.1 hx).2
  obtain ⟨sb, so, hla, hsb, d0, d1, d2, d3, d4, d5⟩ := hW.sl.sc_at hsl
  have hlc := hW.sl.cap
  have hlm : L.length ≤ 9223372036854775807 := Nat.le_trans hW.sl.cap hW.sl.max
  have hB : B0 ≤ W.heap.size := Nat.le_trans hW.b0 (Nat.le_of_lt hwl)
  have HZ := Lib.hid (hW.zs x hxm)
  have HVAL : Hid (∀ v, f k = some v → SeesV W R mb (seesX n N x (k.1 / 4)) v) := fun v hv => by
    obtain ⟨y, hy, hs⟩ := hW.vals k v hv
    rw [hx] at hy
    cases hy
    exact hs
  rw [hxe] at d0 d1 d2 d3 d4 d5
  have HX := Lib.hid hx
  obtain ⟨t, htt⟩ : ∃ t, k.1 / 4 = t := ⟨_, rfl⟩
  obtain ⟨s, hss⟩ : ∃ s, k.1 % 4 = s := ⟨_, rfl⟩
  have HKT := Lib.hid htt
  have HKS := Lib.hid hss
  rw [htt] at HVAL ht HLK ⊢
  rw [hss] at HLK hsl d0 d1 d2 d3 d4 d5 ⊢
  clear htt hss hW hR hx hxm hxe
  rw [hla] at c0
  obtain ⟨m, hm⟩ : ∃ m, L.length = m := ⟨_, rfl⟩
  have HLM := Lib.hid hm
  rw [hm] at c0 hsl hlc hlm
  clear hm
  have hsl' : (s : Int) < (m : Int) := by omega
  have hlc' : (m : Int) ≤ (lc : Int) := by omega
  go_enter Tryz.func44, Tryz.ntmps44
  go_upto_region 2 with fail
  obtain ⟨X, hX⟩ : ∃ X, ((W.alloc (.cells #[.int .i64 (t : Int)] 3)).alloc (.cells #[.int .i64 (t : Int), .int .i64 (s : Int)] 142)) = X := ⟨_, rfl⟩
  have HBX : Hid (Below W.heap.size W X) := by show Below _ _ _; rw [← hX]; exact (by repeat (first | exact Below.refl _ _ | assumption | refine below_drewN ?_ _ | refine Below.drew ?_ | refine Below.setCell ?_ (by first | omega | (simp; done) | (simp; omega)) _ | refine Below.alloc ?_ (by first | omega | (simp; done) | (simp; omega)) _))
  have k0 : X.cell? ⟨W.heap.size + 1, 0, none⟩ = some (.int .i64 (t : Int)) := by rw [← hX]; simp [go_sem]
  have k1 : X.cell? ⟨W.heap.size + 1, 1, none⟩ = some (.int .i64 (s : Int)) := by rw [← hX]; simp [go_sem]
  have t0 : X.cell? ⟨W.heap.size, 0, none⟩ = some (.int .i64 (t : Int)) := by rw [← hX]; simp [go_sem]
  have hXs : W.heap.size + 2 ≤ X.heap.size := by rw [← hX]; simp
  have g0 : W.heap.size < X.heap.size := by omega
  have g1 : W.heap.size + 1 < X.heap.size := by omega
  have g2 : wb < X.heap.size := by omega
  have e0 := (HBX.out.cell (p := ⟨wb, 0, none⟩) hwl).trans c0
  have e1 := (HBX.out.cell (p := ⟨wb, 1, none⟩) hwl).trans c1
  have e2 := (HBX.out.cell (p := ⟨wb, 2, none⟩) hwl).trans c2
  rw [hX]
  clear hX c0 c1 c2
  have hlk : ∀ z : BW X, (Instr.lookup 139 (.map (some mb)) (.agg #[.int .i64 (t : Int), .int .i64 (s : Int)]) true).run Tryz.prog z.w = .ok (.tuple #[(f k).getD (.slice none 0 0), .bool (f k).isSome]) z.w := fun z => HLK.out _ (HBX.out.trans (z.below.mono (by omega)))
  cases hf : f k with
  | some v0 =>
    rw [hf] at hlk
    simp only [Option.getD_some, Option.isSome_some] at hlk
    have HV0 := Lib.hid (HVAL.out v0 hf)
    clear hf
    refine wp_region_bw2 (by kernel_rfl) (by kernel_rfl) (fun hbwc => ?_)
    repeat (go_big_quiet_step (fail))
    refine wpQuiet_nil ?_
    clear hbwc
    intro w2 hb
    have H2 := Lib.hid (HBX.out.trans (hb.mono (by omega)))
    clear hb hlk
    go_wp2_with fail
    go_ret
    exact ⟨v0, f, rfl, HV0.out.below H2.out, HW.out.below H2.out, grown_some H2.out⟩
  | none =>
    rw [hf] at hlk
    simp only [Option.getD_none, Option.isSome_none] at hlk
    have HF := Lib.hid hf
    clear hf
    refine wp_region_bw2 (by kernel_rfl) (by kernel_rfl) (fun hbwc => ?_)
    repeat (go_big_quiet_step (fail))
    refine wpQuiet_nil ?_
    clear hbwc
    intro w2 hb
    have H2 := Lib.hid (HBX.out.trans (hb.mono (by omega)))
    have q0 := (hb.cell (p := ⟨wb, 0, none⟩) g2).trans e0
    have q1 := (hb.cell (p := ⟨wb, 1, none⟩) g2).trans e1
    have q2 := (hb.cell (p := ⟨wb, 2, none⟩) g2).trans e2
    have j0 := (hb.cell (p := ⟨W.heap.size + 1, 0, none⟩) g1).trans k0
    have j1 := (hb.cell (p := ⟨W.heap.size + 1, 1, none⟩) g1).trans k1
    have i0 := (hb.cell (p := ⟨W.heap.size, 0, none⟩) g0).trans t0
    have hz2 := hb.size
    clear hb hlk e0 e1 e2 k0 k1 t0
    have HKEY : Hid (keyOf Tryz.prog 142 (.agg #[.int .i64 (t : Int), .int .i64 (s : Int)]) = some (mk2 k)) := by
      have h := key2_mk k
      rw [HKT.out, HKS.out] at h
      exact h
    have b0 := (H2.out.cell (p := ⟨sb, so + s * 6, none⟩) (by show sb < _; omega)).trans d0
    have b1 := (H2.out.cell (p := ⟨sb, so + s * 6 + 1, none⟩) (by show sb < _; omega)).trans d1
    have b2 := (H2.out.cell (p := ⟨sb, so + s * 6 + 2, none⟩) (by show sb < _; omega)).trans d2
    have b3 := (H2.out.cell (p := ⟨sb, so + s * 6 + 3, none⟩) (by show sb < _; omega)).trans d3
    have b4 := (H2.out.cell (p := ⟨sb, so + s * 6 + 4, none⟩) (by show sb < _; omega)).trans d4
    have b5 := (H2.out.cell (p := ⟨sb, so + s * 6 + 5, none⟩) (by show sb < _; omega)).trans d5
    clear d0 d1 d2 d3 d4 d5
    have s0 : (0 : Int) ≤ (s : Int) := by omega
    have n0 : W.heap.size < w2.heap.size := by omega
    have n1 : W.heap.size + 1 < w2.heap.size := by omega
    have n2 : wb < w2.heap.size := by omega
    go_wp2_with fail
    obtain ⟨W3, hW3⟩ : ∃ W3, w2.alloc (.cells #[.string x.nm, .int .i64 x.fn, .int .i64 x.fd, .int .i64 x.ln, .int .i64 x.ld, .slice x.ZA x.zs.length x.zc] 104) = W3 := ⟨_, rfl⟩
    have HB3 : Hid (Below w2.heap.size w2 W3) := by show Below _ _ _; rw [← hW3]; exact (by repeat (first | exact Below.refl _ _ | assumption | refine below_drewN ?_ _ | refine Below.drew ?_ | refine Below.setCell ?_ (by first | omega | (simp; done) | (simp; omega)) _ | refine Below.alloc ?_ (by first | omega | (simp; done) | (simp; omega)) _))
    have hz3 : w2.heap.size < W3.heap.size := by rw [← hW3]; simp
    have l3 : W3.cell? ⟨w2.heap.size, 3, none⟩ = some (.int .i64 x.ln) := by rw [← hW3]; simp [go_sem]
    have l4 : W3.cell? ⟨w2.heap.size, 4, none⟩ = some (.int .i64 x.ld) := by rw [← hW3]; simp [go_sem]
    have l5 : W3.cell? ⟨w2.heap.size, 5, none⟩ = some (.slice x.ZA x.zs.length x.zc) := by rw [← hW3]; simp [go_sem]
    have i3 := (HB3.out.cell (p := ⟨W.heap.size, 0, none⟩) n0).trans i0
    have q3 := (HB3.out.cell (p := ⟨wb, 2, none⟩) n2).trans q2
    have p0 := (HB3.out.cell (p := ⟨W.heap.size + 1, 0, none⟩) n1).trans j0
    have p1 := (HB3.out.cell (p := ⟨W.heap.size + 1, 1, none⟩) n1).trans j1
    have HW3 : Hid (Below W.heap.size W W3) := H2.out.trans (HB3.out.mono H2.out.size)
    rw [hW3]
    clear hW3 b0 b1 b2 b3 b4 b5
    have HCH := chosen_ n h1 h8 N hN 75 #[.pointer (some ⟨w2.heap.size, 0, none⟩), .pointer (some ⟨W.heap.size, 0, none⟩)] (fun d => nearW d (x.zs.getD t (0, 0, 0)) x.ln x.ld) W3 (enters_of Tryz.func75 (by kernel_rfl) rfl) (fun d W' hb => by
      have h := sees1_ d x t w2.heap.size W.heap.size W' ht (((HZ.out.below (HW3.out.mono hB)).below (hb.mono (by omega))).more (by have := hb.size; omega)) (by have := hb.size; omega) (by have := hb.size; omega) ((hb.cell (p := ⟨_, 3, none⟩) hz3).trans l3) ((hb.cell (p := ⟨_, 4, none⟩) hz3).trans l4) ((hb.cell (p := ⟨_, 5, none⟩) hz3).trans l5) ((hb.cell (p := ⟨_, 0, none⟩) (by show W.heap.size < _; omega)).trans i3)
      rw [show x.zs.getD t (0, 0, 0) = x.zs[t] by simp [ht]]
      exact h)
    obtain ⟨l, hl⟩ : ∃ l, pickL (fun d => nearW d (x.zs.getD t (0, 0, 0)) x.ln x.ld) (cellsL n N) = l := ⟨_, rfl⟩
    have HSX : Hid (seesX n N x t = l) := hl
    rw [hl] at HCH
    have HCHH := Lib.hid HCH
    clear HCH hl l3 l4 l5 i3 i0
    refine HCHH.out.mono ?_
    rintro e w4 ⟨v4, rfl, hown, hb⟩
    obtain ⟨VA, vc, rfl⟩ := own_form hown
    have HO4 := Lib.hid hown
    have HB4 := Lib.hid hb
    have r2 := (hb.cell (p := ⟨wb, 2, none⟩) (by show wb < _; omega)).trans q3
    have u0 := (hb.cell (p := ⟨W.heap.size + 1, 0, none⟩) (by show W.heap.size + 1 < _; omega)).trans p0
    have u1 := (hb.cell (p := ⟨W.heap.size + 1, 1, none⟩) (by show W.heap.size + 1 < _; omega)).trans p1
    have hz4 := hb.size
    have m0 : W.heap.size + 1 < w4.heap.size := by omega
    have m1 : wb < w4.heap.size := by omega
    clear hown hb q0 q1 q2 q3 j0 j1 p0 p1
    go_wp2_with fail
    refine wp_region_bwt 6 (by kernel_rfl) (by kernel_rfl) (fun hbwc => ?_)
    simp only [List.take_succ_cons, List.take_zero, List.drop_succ_cons, List.drop_zero]
    repeat (go_big_quiet_step (fail))
    refine wpQuiet_nil ?_
    clear hbwc
    intro w5 hb
    have HB45 := Lib.hid hb
    have HW4 : Hid (Below W.heap.size W w4) := HW3.out.trans (HB4.out.mono HW3.out.size)
    have HW5 : Hid (Below W.heap.size W w5) := HW4.out.trans (hb.mono HW4.out.size)
    have HSV : Hid (SeesV w5 R mb l (.slice VA l.length vc)) := SeesV.below (seesV_own HO4.out (by omega) (fun r hr => by have := HR.out r hr; omega)) hb
    clear hb
    obtain ⟨cc, hm0⟩ := HW.out.mp
    have HM5 := Lib.hid (hm0.below HW5.out)
    have HWA := Lib.hid (HW.out.below HW5.out)
    clear hm0
    refine wpList_mapUpdate_ws rfl _ _ _ rfl mb (cntF f) cc f HM5.out (by have := cntF_le f; unfold maxLen; omega) rfl k _ HKEY.out rfl (.slice VA l.length vc) rfl ?_
    intro w6 hm6 hg6
    have HP := Lib.hid (HWA.out.put hg6 hm6 HF.out HX.out (by rw [HKT.out, HSX.out]; exact HSV.out))
    have HS6 := Lib.hid (HSV.out.grown hg6 (.inl rfl))
    have HG6 : Hid (W.grownBy w6 (some mb)) := (grown_some HW5.out).trans hg6
    clear hm6 hg6
    go_wp2_with fail
    go_ret
    exact ⟨_, _, rfl, by rw [HSX.out]; exact HS6.out, HP.out, HG6.out⟩
end Go.Proofs.YtpphnnijnnfngaaGreatDoor
