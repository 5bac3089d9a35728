/-
  The walks of the sky's named over telescopes, limitOK, CheckScopes (telescopes that are in order), watching.
-/
import Derived.Test.YtpphnnijnnfngaaGreatDoorW21
import Derived.Test.YtpphnnijnnfngaaGreatDoorW14
namespace Go.Proofs.YtpphnnijnnfngaaGreatDoor
open Go.RowKit Al

@[reducible] def Scp.val (x : Scp) : Value := .agg #[.string x.nm, .int .i64 x.fn, .int .i64 x.fd, .int .i64 x.ln, .int .i64 x.ld, .slice x.ZA x.zs.length x.zc]
set_option maxRecDepth 100000 in
theorem nameSc_ (x : Scp) (w : World) : Calls Tryz.prog 110 #[x.val] w fun e w' => e = .returned (.string x.nm) ∧ Below w.heap.size w w' := by
  go_enter Tryz.func110, Tryz.ntmps110
  go_wp2_with fail
  go_ret
  exact ⟨rfl, (by repeat (first | exact Below.refl _ _ | assumption | refine below_drewN ?_ _ | refine Below.drew ?_ | refine Below.setCell ?_ (by first | omega | (simp; done) | (simp; omega)) _ | refine Below.alloc ?_ (by first | omega | (simp; done) | (simp; omega)) _))⟩
set_option maxRecDepth 100000 in
set_option maxHeartbeats 8000000 in
theorem namedSc_ (L : List Scp) (A : Option Addr) (c : Nat) (w : World) (hL : Sl w w.heap.size 6 A L.length c (scsC L)) (hm : ∀ x ∈ L, x.nm.size ≤ maxLen) :
    Calls Tryz.prog 109 #[.slice A L.length c, .func (.func 110) #[] #[]] w fun e w' => e = .returned (.bool (namedB (L.map fun x => x.nm.data.toList))) ∧ Below w.heap.size w w' := by
  have hl : L.length ≤ maxLen := Nat.le_trans hL.cap hL.max
  unfold maxLen at hl
  have hmm := @run_makeMap Tryz.prog
  obtain ⟨N, hN⟩ : ∃ N, L.map (fun x => x.nm.data.toList) = N := ⟨_, rfl⟩
  have hNl : N.length = L.length := by rw [← hN]; simp
  have HN := Lib.hid hN
  have HNL := Lib.hid hNl
  have HL := Lib.hid hL
  have HM := Lib.hid hm
  rw [hN]
  clear hN hL hm hNl
  go_enter Tryz.func109, Tryz.ntmps109
  go_wp2_with fail
  clear hmm
  go_loopw [12] (fun i wr => nmRel N w i wr) (fun i _ => L.length - (intOf i).toNat)
  case atStart => exact ⟨0, 0, Nat.zero_le _, rfl, rfl, QapK.made _ _ w, (by repeat (first | exact Below.refl _ _ | assumption | refine below_drewN ?_ _ | refine Below.drew ?_ | refine Below.setCell ?_ (by first | omega | (simp; done) | (simp; omega)) _ | refine Below.alloc ?_ (by first | omega | (simp; done) | (simp; omega)) _))⟩
  case round =>
    obtain ⟨k, ct, hk, rfl, hN0, hmap, hbw⟩ := hrel
    have hkl : k ≤ L.length := by rw [← HNL.out]; exact hk
    have HMP := Lib.hid hmap
    have HBW := Lib.hid hbw
    have hsz := hbw.size
    have hmb := hmap.lt
    clear hk hmap hbw
    by_cases hlt : k < L.length
    · obtain ⟨tb, tof, rfl, htb, c0, c1, c2, c3, c4, c5⟩ := (HL.out.below HBW.out).sc_at hlt
      have hnm := HM.out _ (List.getElem_mem hlt)
      have hNk : k < N.length := by rw [HNL.out]; exact hlt
      have HE : Hid (N[k]'(by rw [HNL.out]; exact hlt) = L[k].nm.data.toList) := by show _ = _; simp [← HN.out]
      have HG : Hid (N.getD k [] = L[k].nm.data.toList) := by show _ = _; rw [← HE.out]; simp [hNk]
      obtain ⟨X, hX⟩ : ∃ X, L[k] = X := ⟨_, rfl⟩
      have hkN : Hid (k < N.length) := hNk
      rw [hX] at c0 c1 c2 c3 c4 c5 hnm HE HG
      have hlt' : (k : Int) < (L.length : Int) := by omega
      have htb2 : tb < wr.heap.size := by omega
      clear hX hNk
      go_wp2_with fail
      refine (nameSc_ X _).mono ?_
      rintro e w2 ⟨rfl, hb⟩
      have HB2 : Hid (Below wr.heap.size wr w2) := (show Below wr.heap.size wr _ from (by repeat (first | exact Below.refl _ _ | assumption | refine below_drewN ?_ _ | refine Below.drew ?_ | refine Below.setCell ?_ (by first | omega | (simp; done) | (simp; omega)) _ | refine Below.alloc ?_ (by first | omega | (simp; done) | (simp; omega)) _))).trans (hb.mono (by simp))
      have HM2 : Hid (QapS w2 w.heap.size k ct (seenF N k)) := HMP.out.below HB2.out
      clear hb
      have hlk := HM2.out.look keyLawQ Tryz.underlying186 (zeroBool w2) (WideMaps.keyOf_string_mk Tryz.underlying9 hnm)
      rw [seenF_get] at hlk
      obtain ⟨cc, hcc⟩ : ∃ cc, (N.take k).contains X.nm.data.toList = cc := ⟨_, rfl⟩
      obtain ⟨nb, hnb⟩ : ∃ nb, isName X.nm.data.toList = nb := ⟨_, rfl⟩
      rw [hcc] at hlk
      have hst : nameStep N k = (nb && !cc) := by unfold nameStep; rw [HG.out, hcc, hnb]
      have HST := Lib.hid hst
      have HNB := Lib.hid hnb
      clear hcc hnb hst
      cases nb with
      | false =>
        have HR : Hid (namedB N = false) := namedB_no hkN.out (by rw [HST.out]; rfl)
        go_wp2_with (go_at_call 122; refine (isName_ _ _ hnm).mono ?_; rintro e w' ⟨rfl, rfl⟩; rw [HNB.out])
        go_ret
        exact ⟨ret_bool HR.out.symm, HBW.out.trans (HB2.out.mono hsz)⟩
      | true =>
        cases cc with
        | true =>
          have HR : Hid (namedB N = false) := namedB_no hkN.out (by rw [HST.out]; rfl)
          go_wp2_with (go_at_call 122; refine (isName_ _ _ hnm).mono ?_; rintro e w' ⟨rfl, rfl⟩; rw [HNB.out])
          go_ret
          exact ⟨ret_bool HR.out.symm, HBW.out.trans (HB2.out.mono hsz)⟩
        | false =>
          have HR : Hid (namedN N (k + 1) = true) := by show _ = _; rw [namedN_succ, hN0.out, HST.out]; rfl
          go_wp2_with (first | (go_at_call 122; refine (isName_ _ _ hnm).mono ?_; rintro e w' ⟨rfl, rfl⟩; rw [HNB.out]) | (refine wpList_mapUpdate_nm rfl _ _ _ rfl w.heap.size k ct (seenF N k) HM2.out (by unfold maxLen; omega) rfl X.nm hnm rfl (.bool true) rfl ?_; intro w3 hm3 hg3))
          go_roundw
          case rel => exact ⟨k + 1, _, hkN.out, by go_num, HR.out, (by rw [seenF_succ hkN.out HE.out]; exact hm3), (HBW.out.trans (HB2.out.mono hsz)).grown hg3 (by have := HB2.out.size; omega) (fun j e => by cases e; exact Nat.le_refl _)⟩
          case measure => simp [intOf]; omega
    · obtain rfl : k = L.length := by omega
      have HR : Hid (namedB N = true) := by show namedN N N.length = true; rw [HNL.out]; exact hN0.out
      go_wp2_with fail
      go_ret
      exact ⟨ret_bool HR.out.symm, HBW.out⟩
theorem swithin_is (n lo hi : Int) (b : Bool) (h : inB n lo hi = b) (w : World) : Calls Tryz.prog 24 #[.int .i64 n, .int .i64 lo, .int .i64 hi] w fun e w' => e = .returned (.bool b) ∧ w = w' := h ▸ swithin_ n lo hi w
/-- Is a limit in order? -/
def limB (n d : Int) : Bool := inB d 1 4096 && inB n 0 d
set_option maxRecDepth 100000 in
set_option maxHeartbeats 1000000 in
theorem limitOK_ (n d : Int) (w : World) : Calls Tryz.prog 111 #[.agg #[.int .i64 n, .int .i64 d]] w fun e w' => e = .returned (.bool (limB n d)) ∧ Below w.heap.size w w' := by
  unfold limB
  cases h1 : inB d 1 4096 with
  | true =>
    go_enter Tryz.func111, Tryz.ntmps111
    go_wp2_with fail
    refine (swithin_is d 1 4096 _ h1 _).mono ?_
    rintro e w' ⟨rfl, rfl⟩
    clear h1
    go_wp2_with fail
    refine (swithin_ n 0 d _).mono ?_
    rintro e w' ⟨rfl, rfl⟩
    go_wp2_with fail
    go_ret
    exact ⟨rfl, (by repeat (first | exact Below.refl _ _ | assumption | refine below_drewN ?_ _ | refine Below.drew ?_ | refine Below.setCell ?_ (by first | omega | (simp; done) | (simp; omega)) _ | refine Below.alloc ?_ (by first | omega | (simp; done) | (simp; omega)) _))⟩
  | false =>
    go_enter Tryz.func111, Tryz.ntmps111
    go_wp2_with fail
    refine (swithin_is d 1 4096 _ h1 _).mono ?_
    rintro e w' ⟨rfl, rfl⟩
    clear h1
    go_wp2_with fail
    go_ret
    exact ⟨rfl, (by repeat (first | exact Below.refl _ _ | assumption | refine below_drewN ?_ _ | refine Below.drew ?_ | refine Below.setCell ?_ (by first | omega | (simp; done) | (simp; omega)) _ | refine Below.alloc ?_ (by first | omega | (simp; done) | (simp; omega)) _))⟩
/-- A telescope that is in order, beside others with so many zeniths. -/
structure ScOk (m : Nat) (x : Scp) : Prop where
  f : limB x.fn x.fd = true
  l : limB x.ln x.ld = true
  z1 : 1 ≤ x.zs.length
  z8 : x.zs.length ≤ 8
  zm : x.zs.length = m
  zs : ∀ z ∈ x.zs, mostB z 1000 = true ∧ nzB z = true
structure ScsOk (L : List Scp) (m : Nat) : Prop where
  l1 : 1 ≤ L.length
  l4 : L.length ≤ 4
  nm : namedB (L.map fun x => x.nm.data.toList) = true
  ok : ∀ x ∈ L, ScOk m x
  sz : ∀ x ∈ L, x.nm.size ≤ maxLen
def CsRel (L : List Scp) (w : World) (o i : Value) (wr : World) : Prop := ∃ k : Nat, k ≤ L.length ∧ i = .int .i64 (k : Int) ∧ o = .bool true ∧ Hid (Below w.heap.size w wr)
def CzRel (n : Nat) (w : World) (o i : Value) (wr : World) : Prop := ∃ k : Nat, k ≤ n ∧ i = .int .i64 (k : Int) ∧ o = .bool true ∧ Hid (Below w.heap.size w wr)
set_option maxRecDepth 100000 in
set_option maxHeartbeats 4000000 in
theorem checkScopes_ok (L : List Scp) (m : Nat) (hok : ScsOk L m) (A : Option Addr) (c : Nat) (w : World) (hL : Sl w w.heap.size 6 A L.length c (scsC L)) (hz : ∀ x ∈ L, Sl w w.heap.size 3 x.ZA x.zs.length x.zc (zsC x.zs)) :
    Calls Tryz.prog 74 #[.slice A L.length c] w fun e w' => e = .returned (.int .i64 0) ∧ Below w.heap.size w w' := by
  have HL := Lib.hid hL
  have HZ := Lib.hid hz
  have HNM : Hid (∀ W, Below w.heap.size w W → Calls Tryz.prog 109 #[.slice A L.length c, .func (.func 110) #[] #[]] W fun e w' => e = .returned (.bool true) ∧ Below W.heap.size W w') := fun W hW => by
    have h := namedSc_ L A c W ((hL.below hW).more hW.size) hok.sz
    rw [hok.nm] at h
    exact h
  have hl1 : (1 : Int) ≤ (L.length : Int) := by have := hok.l1; omega
  have hl4 : (L.length : Int) ≤ 4 := by have := hok.l4; omega
  have HIN : Hid (inB (L.length : Int) 1 4 = true) := inB_mk ⟨hl1, hl4⟩
  have HOK := Lib.hid hok
  have hcap := hL.cap
  obtain ⟨sb0, so0, rfl, hsb0, z0, z1, z2, z3, z4, z5⟩ := hL.sc_at (k := 0) hok.l1
  simp only [Nat.zero_mul, Nat.add_zero] at z0 z1 z2 z3 z4 z5
  have hx0m := (hok.ok _ (List.getElem_mem (show 0 < L.length from hok.l1))).zm
  obtain ⟨x0, hx0⟩ : ∃ x, L[0]'(show 0 < L.length from hok.l1) = x := ⟨_, rfl⟩
  rw [hx0] at hx0m z5
  rw [hx0m] at z5
  clear hL hz z0 z1 z2 z3 z4 hx0m hx0 hok
  go_enter Tryz.func74, Tryz.ntmps74
  go_wp2_with fail
  refine (swithin_is _ 1 4 _ HIN.out _).mono ?_
  rintro e w' ⟨rfl, rfl⟩
  go_wp2_with fail
  refine (HNM.out _ (Below.refl _ _)).mono ?_
  rintro e w1 ⟨rfl, hb⟩
  have HB1 := Lib.hid hb
  clear hb
  go_wp2_with fail
  go_loopw [3, 18] (fun o i wr => CsRel L w o i wr) (fun _ i _ => L.length - (intOf i).toNat)
  case atStart => exact ⟨0, Nat.zero_le _, rfl, rfl, HB1⟩
  case round =>
    obtain ⟨k, hk, rfl, rfl, HB⟩ := hrel
    have hsz := HB.out.size
    by_cases hlt : k < L.length
    · obtain ⟨tb, tof, he, htb, c0, c1, c2, c3, c4, c5⟩ := (HL.out.below HB.out).sc_at hlt
      cases he
      obtain ⟨x, hx⟩ : ∃ x, L[k] = x := ⟨_, rfl⟩
      have hxm : x ∈ L := by rw [← hx]; exact List.getElem_mem hlt
      have HX := Lib.hid (HOK.out.ok x hxm)
      have HZX := Lib.hid (((HZ.out x hxm).below HB.out).more hsz)
      have HML : Hid (x.zs.length = m) := HX.out.zm
      rw [hx] at c0 c1 c2 c3 c4 c5
      rw [HML.out] at c5
      have z5' := (HB.out.cell (p := ⟨sb0, so0 + 5, none⟩) hsb0).trans z5
      have hm1 : (1 : Int) ≤ (m : Int) := by have := HX.out.z1; rw [HML.out] at this; omega
      have hm8 : (m : Int) ≤ 8 := by have := HX.out.z8; rw [HML.out] at this; omega
      have HINm : Hid (inB (m : Int) 1 8 = true) := inB_mk ⟨hm1, hm8⟩
      have HLF : Hid (∀ W, Calls Tryz.prog 111 #[.agg #[.int .i64 x.fn, .int .i64 x.fd]] W fun e w' => e = .returned (.bool true) ∧ Below W.heap.size W w') := fun W => HX.out.f ▸ limitOK_ x.fn x.fd W
      have HLL : Hid (∀ W, Calls Tryz.prog 111 #[.agg #[.int .i64 x.ln, .int .i64 x.ld]] W fun e w' => e = .returned (.bool true) ∧ Below W.heap.size W w') := fun W => HX.out.l ▸ limitOK_ x.ln x.ld W
      have hlt' : (k : Int) < (L.length : Int) := by omega
      have htb2 : sb0 < wr.heap.size := by omega
      clear hx hxm
      go_upto_region 5 with fail
      obtain ⟨X, hX⟩ : ∃ X, wr.alloc (.cells #[.string x.nm, .int .i64 x.fn, .int .i64 x.fd, .int .i64 x.ln, .int .i64 x.ld, .slice x.ZA m x.zc] 104) = X := ⟨_, rfl⟩
      have HX1 : Hid (Below wr.heap.size wr X) := by show Below _ _ _; rw [← hX]; exact (by repeat (first | exact Below.refl _ _ | assumption | refine below_drewN ?_ _ | refine Below.drew ?_ | refine Below.setCell ?_ (by first | omega | (simp; done) | (simp; omega)) _ | refine Below.alloc ?_ (by first | omega | (simp; done) | (simp; omega)) _))
      have x1 : X.cell? ⟨wr.heap.size, 1, none⟩ = some (.int .i64 x.fn) := by rw [← hX]; simp [go_sem]
      have x2 : X.cell? ⟨wr.heap.size, 2, none⟩ = some (.int .i64 x.fd) := by rw [← hX]; simp [go_sem]
      have x3 : X.cell? ⟨wr.heap.size, 3, none⟩ = some (.int .i64 x.ln) := by rw [← hX]; simp [go_sem]
      have x4 : X.cell? ⟨wr.heap.size, 4, none⟩ = some (.int .i64 x.ld) := by rw [← hX]; simp [go_sem]
      have x5 : X.cell? ⟨wr.heap.size, 5, none⟩ = some (.slice x.ZA m x.zc) := by rw [← hX]; simp [go_sem]
      have hXs : wr.heap.size < X.heap.size := by rw [← hX]; simp
      have z6 := (HX1.out.cell (p := ⟨sb0, so0 + 5, none⟩) htb2).trans z5'
      have hsbX : sb0 < X.heap.size := by omega
      rw [hX]
      clear hX c0 c1 c2 c3 c4 c5
      refine wp_region_bw2 (by kernel_rfl) (by kernel_rfl) (fun hbwc => ?_)
      repeat (go_big_quiet_step ((first | (go_at_call 111; (with_reducible exact bwCall (HLF.out _))) | (go_at_call 111; (with_reducible exact bwCall (HLL.out _))) | (go_at_call 24; exact bwSame (swithin_is _ 1 8 _ HINm.out _)))))
      refine wpQuiet_nil ?_
      clear hbwc
      intro w2 hb
      have HB2 := Lib.hid hb
      have y5 := (hb.cell (p := ⟨wr.heap.size, 5, none⟩) hXs).trans x5
      have hXz := HX1.out.size
      have hz2 := hb.size
      clear hb x1 x2 x3 x4 x5 z6
      have HBw2 : Hid (Below w.heap.size w w2) := HB.out.trans ((HX1.out.trans (HB2.out.mono hXz)).mono hsz)
      have HZ2 : Hid (Sl w2 w2.heap.size 3 x.ZA x.zs.length x.zc (zsC x.zs)) := (HZX.out.below (HX1.out.trans (HB2.out.mono hXz))).more (by omega)
      go_wp2_with fail
      go_loopw [3, 53] (fun o i wr => CzRel m w2 o i wr) (fun _ i _ => m - (intOf i).toNat)
      case atStart => exact ⟨0, Nat.zero_le _, rfl, rfl, Lib.hid (Below.refl _ _)⟩
      case round =>
        obtain ⟨j, hj, rfl, rfl, HBj⟩ := hrel
        have hszj := HBj.out.size
        by_cases hjt : j < m
        · have hjz : j < x.zs.length := by rw [HML.out]; exact hjt
          obtain ⟨zb, zof, hza, hzb, d0, d1, d2⟩ := (HZ2.out.below HBj.out).z_at hjz
          obtain ⟨z, hzz⟩ : ∃ z, x.zs[j] = z := ⟨_, rfl⟩
          have hzo := HX.out.zs z (by rw [← hzz]; exact List.getElem_mem hjz)
          rw [hzz] at d0 d1 d2
          have hcz := HZ2.out.cap
          rw [HML.out] at hcz
          rw [hza]
          clear hzz hjz
          obtain ⟨a, b, cc⟩ := z
          have HMO : Hid (∀ W, Calls Tryz.prog 86 #[.agg #[.int .i64 a, .int .i64 b, .int .i64 cc], .int .i64 1000] W fun e w' => e = .returned (.bool true) ∧ Below W.heap.size W w') := fun W => hzo.1 ▸ most_ (a, b, cc) 1000 W (w64 (by decide) (by decide))
          have HNZ : ∀ W, (Op.equalIn 10000 40 (.agg #[.int .i64 a, .int .i64 b, .int .i64 cc]) (.agg #[.int .i64 0, .int .i64 0, .int .i64 0])).run Tryz.prog W = .ok false W := fun W => (run_eql_v3 _ _ _ _ _ _ W).trans (by have := hzo.2; unfold nzB at this; simp at this ⊢; intro h1 h2 h3; rcases this with h | h | h; exact h h1; exact h h2; exact h h3)
          have hjt' : (j : Int) < (m : Int) := by omega
          have hcz' : (m : Int) ≤ (x.zc : Int) := by omega
          have hzb2 : zb < wr.heap.size := by omega
          clear hzo
          go_wp2_with fail
          refine (HMO.out _).mono ?_
          rintro e w3 ⟨rfl, hb⟩
          obtain ⟨hc3, hf3⟩ := bcell hb
          have HB3 : Hid (Below w2.heap.size w2 w3) := HBj.out.trans ((show Below wr.heap.size wr _ from (by repeat (first | exact Below.refl _ _ | assumption | refine below_drewN ?_ _ | refine Below.drew ?_ | refine Below.setCell ?_ (by first | omega | (simp; done) | (simp; omega)) _ | refine Below.alloc ?_ (by first | omega | (simp; done) | (simp; omega)) _))).trans (hb.mono (by first | omega | (simp; done) | (simp; omega))) |>.mono hszj)
          clear hb
          go_wp2_with fail
          go_roundw
          case rel => exact ⟨j + 1, by omega, by go_num, rfl, HB3⟩
          case measure => simp [intOf]; omega
        · obtain rfl : j = m := by omega
          go_wp2_with fail
          go_roundw
          case rel => exact ⟨k + 1, by omega, by go_num, rfl, Lib.hid (HBw2.out.trans (HBj.out.mono (by have := HBw2.out.size; omega)))⟩
          case measure => simp [intOf]; omega
    · obtain rfl : k = L.length := by omega
      go_wp2_with fail
      go_ret
      exact ⟨rfl, HB.out⟩
/-- A watch over telescopes in order is handed back. -/
def WchT (L : List Scp) (LA : Option Addr) (lc : Nat) (n : Int) (N : Nat) (w : World) (e : Ending) (w' : World) : Prop := ∃ wb mb, e = .returned (.tuple #[.pointer (some ⟨wb, 0, none⟩), .int .i64 0]) ∧ WAt w' (fun _ => False) w.heap.size wb mb LA lc L n N (fun _ => none) ∧ Below w.heap.size w w'
set_option maxRecDepth 100000 in
set_option maxHeartbeats 1000000 in
theorem watching_ok (L : List Scp) (m : Nat) (hok : ScsOk L m) (A : Option Addr) (c : Nat) (n : Int) (h1 : 1 ≤ n) (h8 : n ≤ 8) (N : Nat) (w : World) (hL : Sl w w.heap.size 6 A L.length c (scsC L)) (hz : ∀ x ∈ L, Sl w w.heap.size 3 x.ZA x.zs.length x.zc (zsC x.zs)) :
    Calls Tryz.prog 42 #[.slice A L.length c, .int .i64 n] w (WchT L A c n N w) := by
  have HC := Lib.hid (checkScopes_ok L m hok A c w hL hz)
  have HL := Lib.hid hL
  have HZ := Lib.hid hz
  have HG : Hid (inB n 1 8 = true) := inB_mk ⟨h1, h8⟩
  have hmm := @run_makeMap Tryz.prog
  clear hL hz hok
  go_enter Tryz.func42, Tryz.ntmps42
  go_wp2_with fail
  refine HC.out.mono ?_
  rintro e w1 ⟨rfl, hb⟩
  have HB := Lib.hid hb
  have hzw := hb.size
  clear hb
  go_wp2_with fail
  refine (skGrid_ n _).mono ?_
  rintro e w' ⟨rfl, rfl⟩
  rw [HG.out]
  go_wp2_with fail
  go_ret2
  have HBF : Hid (Below w.heap.size w ((w1.alloc (.map #[] 0)).alloc (.cells #[.slice A L.length c, .int .i64 n, .map (some w1.heap.size)] 141))) := (HB.out.alloc hzw _).alloc (by simp; omega) _
  have hm0 : QapK 142 mk2 ((w1.alloc (.map #[] 0)).alloc (.cells #[.slice A L.length c, .int .i64 n, .map (some w1.heap.size)] 141)) w1.heap.size 0 0 (fun _ => none) := (QapK.made 142 mk2 w1).below ((Below.refl _ _).alloc (Nat.le_refl _) _)
  refine ⟨w1.heap.size + 1, w1.heap.size, rfl, ⟨by omega, hzw, by omega, by simp, (fun r h => h.elim), by simp [go_sem], by simp [go_sem], by simp [go_sem], HL.out.below HBF.out, fun x hx => (HZ.out x hx).below HBF.out, ⟨0, ?_⟩, fun k v h => nomatch h⟩, HBF.out⟩
  have e : cntF (fun _ => none) = 0 := by unfold cntF; simp
  rw [e]
  exact hm0
end Go.Proofs.YtpphnnijnnfngaaGreatDoor

/-
  The sky's Plan, plainly; what its walk keeps in memory.
-/
namespace Go.Proofs.YtpphnnijnnfngaaGreatDoor
open Go.RowKit Al

instance : Inhabited Scp := ⟨⟨⟨#[]⟩, 0, 0, 0, 0, [], none, 0⟩⟩
/-- The best look of those at some cells (the first one of the greatest gain). -/
def bestF (n : Int) (N : Nat) (x : Scp) (t s : Nat) (lf : List Int) : V3 × Int → List Int → V3 × Int
  | bm, [] => bm
  | bm, c :: r => bestF n N x t s lf (if bm.2 < (takeF false lf (coversX n N x t c)).1 then (((t : Int), (s : Int), c), (takeF false lf (coversX n N x t c)).1) else bm) r
theorem bestF_snoc (n : Int) (N : Nat) (x : Scp) (t s : Nat) (lf : List Int) (bm : V3 × Int) (l : List Int) (c : Int) :
    bestF n N x t s lf bm (l ++ [c]) = if (bestF n N x t s lf bm l).2 < (takeF false lf (coversX n N x t c)).1 then (((t : Int), (s : Int), c), (takeF false lf (coversX n N x t c)).1) else bestF n N x t s lf bm l := by
  induction l generalizing bm with
  | nil => rfl
  | cons a r ih => exact ih _
/-- The best look is one of those, or there is none. -/
theorem bestF_in (n : Int) (N : Nat) (x : Scp) (t s : Nat) (lf : List Int) (l : List Int) : 0 ≤ (bestF n N x t s lf ((0, 0, 0), 0) l).2 ∧ (0 < (bestF n N x t s lf ((0, 0, 0), 0) l).2 → ∃ c ∈ l, bestF n N x t s lf ((0, 0, 0), 0) l = (((t : Int), (s : Int), c), (takeF false lf (coversX n N x t c)).1)) := by
  have key : ∀ (l : List Int) (bm : V3 × Int), 0 ≤ bm.2 → (0 ≤ (bestF n N x t s lf bm l).2 ∧ ((bestF n N x t s lf bm l) = bm ∨ ∃ c ∈ l, bestF n N x t s lf bm l = (((t : Int), (s : Int), c), (takeF false lf (coversX n N x t c)).1))) := by
    intro l
    induction l with
    | nil => intro bm h; exact ⟨h, .inl rfl⟩
    | cons a r ih =>
      intro bm h
      rw [bestF]
      by_cases hlt : bm.2 < (takeF false lf (coversX n N x t a)).1
      · rw [if_pos hlt]
        obtain ⟨h1, h2⟩ := ih (((t : Int), (s : Int), a), (takeF false lf (coversX n N x t a)).1) (by show 0 ≤ (takeF false lf (coversX n N x t a)).1; omega)
        refine ⟨h1, .inr ?_⟩
        rcases h2 with h2 | ⟨c, hc, h2⟩
        · exact ⟨a, List.mem_cons_self .., h2⟩
        · exact ⟨c, List.mem_cons_of_mem _ hc, h2⟩
      · rw [if_neg hlt]
        obtain ⟨h1, h2⟩ := ih bm h
        refine ⟨h1, ?_⟩
        rcases h2 with h2 | ⟨c, hc, h2⟩
        · exact .inl h2
        · exact .inr ⟨c, List.mem_cons_of_mem _ hc, h2⟩
  obtain ⟨h1, h2⟩ := key l ((0, 0, 0), 0) (Int.le_refl _)
  refine ⟨h1, fun h0 => ?_⟩
  rcases h2 with h2 | h2
  · rw [h2] at h0
    exact absurd h0 (by decide)
  · exact h2
/-- What is left to gain, the plan, its gain. -/
structure PSt where
  lf : List Int
  pl : List V3
  g : Int
def stepF (n : Int) (N : Nat) (L : List Scp) (t : Nat) (st : PSt) (s : Nat) : PSt :=
  if 0 < (bestF n N (L.getD s default) t s st.lf ((0, 0, 0), 0) (seesX n N (L.getD s default) t)).2 then
    ⟨(takeF true st.lf (coversX n N (L.getD s default) t (bestF n N (L.getD s default) t s st.lf ((0, 0, 0), 0) (seesX n N (L.getD s default) t)).1.2.2)).2,
     st.pl ++ [(bestF n N (L.getD s default) t s st.lf ((0, 0, 0), 0) (seesX n N (L.getD s default) t)).1],
     st.g + (takeF true st.lf (coversX n N (L.getD s default) t (bestF n N (L.getD s default) t s st.lf ((0, 0, 0), 0) (seesX n N (L.getD s default) t)).1.2.2)).1⟩
  else st
def rowF (n : Int) (N : Nat) (L : List Scp) (st : PSt) (t k : Nat) : PSt := (List.range k).foldl (stepF n N L t) st
def planF (n : Int) (N : Nat) (L : List Scp) (st : PSt) (k : Nat) : PSt := (List.range k).foldl (fun st t => rowF n N L st t L.length) st
theorem rowF_succ (n : Int) (N : Nat) (L : List Scp) (st : PSt) (t k : Nat) : rowF n N L st t (k + 1) = stepF n N L t (rowF n N L st t k) k := by
  unfold rowF
  rw [List.range_succ, List.foldl_append]
  rfl
theorem planF_succ (n : Int) (N : Nat) (L : List Scp) (st : PSt) (k : Nat) : planF n N L st (k + 1) = rowF n N L (planF n N L st k) k L.length := by
  unfold planF
  rw [List.range_succ, List.foldl_append]
  rfl
theorem coversX_len (n : Int) (N : Nat) (x : Scp) (t : Nat) (c : Int) : (coversX n N x t c).length ≤ N := by
  unfold coversX seesX pickL
  refine Nat.le_trans (List.length_filter_le _ _) ?_
  rw [List.length_map]
  exact Nat.le_trans (List.length_filter_le _ _) (by rw [cellsL_len]; exact Nat.le_refl _)
theorem coversX_in {n : Int} {N : Nat} {x : Scp} {t : Nat} {c y : Int} (h : y ∈ coversX n N x t c) : 0 ≤ y ∧ y < (N : Int) := seesX_in (List.mem_filter.1 h).1
/-- Numbers that stay short. -/
structure PSt.ok (nn k : Nat) (st : PSt) : Prop where
  lf : ∀ x ∈ st.lf, 0 ≤ x ∧ x ≤ 1000
  ln : st.lf.length = nn
  g0 : 0 ≤ st.g
  g1 : st.g ≤ 384000 * k
  pl : st.pl.length ≤ k
theorem stepF_ok {n : Int} {N : Nat} (hN : N ≤ 384) {L : List Scp} {t s nn k : Nat} {st : PSt} (h : st.ok nn k) : (stepF n N L t st s).ok nn (k + 1) := by
  unfold stepF
  split
  · rename_i h0
    obtain ⟨h1, h2, h3⟩ := takeF_in true st.lf (coversX n N (L.getD s default) t (bestF n N (L.getD s default) t s st.lf ((0, 0, 0), 0) (seesX n N (L.getD s default) t)).1.2.2) h.lf
    have h4 := coversX_len n N (L.getD s default) t (bestF n N (L.getD s default) t s st.lf ((0, 0, 0), 0) (seesX n N (L.getD s default) t)).1.2.2
    have h5 := h.g0
    have h6 := h.g1
    refine ⟨h1, by rw [takeF_len]; exact h.ln, ?_, ?_, ?_⟩
    · show 0 ≤ st.g + _; omega
    · show st.g + _ ≤ _; omega
    · show (st.pl ++ [_]).length ≤ _; have := h.pl; simp; omega
  · have h6 := h.g1
    exact ⟨h.lf, h.ln, h.g0, by omega, by have := h.pl; omega⟩
theorem rowF_ok {n : Int} {N : Nat} (hN : N ≤ 384) {L : List Scp} {t nn k : Nat} {st : PSt} (h : st.ok nn k) : ∀ j, (rowF n N L st t j).ok nn (k + j)
  | 0 => h
  | j + 1 => by rw [rowF_succ]; exact stepF_ok hN (rowF_ok hN h j)
theorem planF_ok {n : Int} {N : Nat} (hN : N ≤ 384) {L : List Scp} {nn : Nat} {st : PSt} (h : st.ok nn 0) : ∀ j, (planF n N L st j).ok nn (j * L.length)
  | 0 => by rw [Nat.zero_mul]; exact h
  | j + 1 => by rw [planF_succ, Nat.succ_mul]; exact rowF_ok hN (planF_ok hN h j) _
/-- Three ints in a box of their own. -/
def Bx3 (W : World) (bb : Nat) (d : V3) : Prop := W.heap[bb]? = some (.cells #[.int .i64 d.1, .int .i64 d.2.1, .int .i64 d.2.2] 62 (0, 0))
theorem Bx3.lt {W : World} {bb : Nat} {d : V3} (h : Bx3 W bb d) : bb < W.heap.size := (Array.getElem?_eq_some_iff.1 h).1
theorem Bx3.c0 {W : World} {bb : Nat} {d : V3} (h : Bx3 W bb d) : W.cell? ⟨bb, 0, none⟩ = some (.int .i64 d.1) := by unfold Bx3 at h; simp [World.cell?, h]
theorem Bx3.c1 {W : World} {bb : Nat} {d : V3} (h : Bx3 W bb d) : W.cell? ⟨bb, 1, none⟩ = some (.int .i64 d.2.1) := by unfold Bx3 at h; simp [World.cell?, h]
theorem Bx3.c2 {W : World} {bb : Nat} {d : V3} (h : Bx3 W bb d) : W.cell? ⟨bb, 2, none⟩ = some (.int .i64 d.2.2) := by unfold Bx3 at h; simp [World.cell?, h]
theorem Bx3.f {W : World} {bb : Nat} {d : V3} (h : Bx3 W bb d) (o : Nat) : W.frozen? ⟨bb, o, none⟩ = false := by unfold Bx3 at h; simp [World.frozen?, h]
theorem Bx3.grown {W W' : World} {bb r : Nat} {d : V3} (h : Bx3 W bb d) (g : W.grownBy W' (some r)) (hr : bb ≠ r) : Bx3 W' bb d := (g.block bb h.lt (fun e => hr (Option.some.inj e))).trans h
theorem Bx3.below {W W' : World} {bb : Nat} {d : V3} (h : Bx3 W bb d) (g : Below W.heap.size W W') : Bx3 W' bb d := (g.block bb h.lt).trans h
theorem Bx3.set {W : World} {bb : Nat} {d : V3} (h : Bx3 W bb d) (a b c : Int) : Bx3 (((W.setCell ⟨bb, 0, none⟩ (.int .i64 a)).setCell ⟨bb, 1, none⟩ (.int .i64 b)).setCell ⟨bb, 2, none⟩ (.int .i64 c)) bb (a, b, c) := by
  unfold Bx3 at *
  have hlt := (Array.getElem?_eq_some_iff.1 h).1
  have e := (Array.getElem?_eq_some_iff.1 h).2
  simp only [World.setCell]
  simp [Array.getElem?_modify, Array.getElem?_eq_getElem hlt, e]
theorem grown_set {W : World} {bb o : Nat} {v : Value} : W.grownBy (W.setCell ⟨bb, o, none⟩ v) (some bb) := ⟨rfl, rfl, rfl, by simp, fun k hk hne => by
  show (W.heap.modify bb _)[k]? = _
  rw [Array.getElem?_modify]
  have : bb ≠ k := fun e => hne (by rw [e])
  simp [this]⟩
/-- What Plan's walk keeps: the watch, what is left to gain, the plan. -/
structure PlW (R : Nat → Prop) (B0 wb mb lb nn : Nat) (LA : Option Addr) (lc : Nat) (L : List Scp) (n : Int) (N : Nat) (W0 : World) (lf : List Int) (PA : Option Addr) (pc : Nat) (pl : List V3) (wr : World) : Prop where
  ww : ∃ f', WAt wr R B0 wb mb LA lc L n N f'
  rl : R lb
  rs : ∀ r, R r → r < wr.heap.size
  lr : wr.ownsRow B0 3 1 (.slice (some ⟨lb, 0, none⟩) nn nn) nn (ints lf)
  pr : wr.ownsRow B0 62 3 (.slice PA pl.length pc) pl.length (zsC pl)
  pR : ∀ g, (Value.slice PA pl.length pc).ownBlock = some g → R g ∧ g ≠ lb
  bl : Below B0 W0 wr
section
variable {R : Nat → Prop} {B0 wb mb lb nn : Nat} {LA : Option Addr} {lc : Nat} {L : List Scp} {n : Int} {N : Nat} {W0 : World} {lf : List Int} {PA : Option Addr} {pc : Nat} {pl : List V3} {wr : World}
theorem PlW.b0 (h : PlW R B0 wb mb lb nn LA lc L n N W0 lf PA pc pl wr) : B0 ≤ wr.heap.size ∧ B0 ≤ mb ∧ mb < wr.heap.size ∧ wb < wr.heap.size := by
  obtain ⟨f', hw⟩ := h.ww
  obtain ⟨c, hm⟩ := hw.mp
  exact ⟨Nat.le_trans hw.b0 (Nat.le_of_lt hw.lt), hw.b1, hm.lt, hw.lt⟩
theorem PlW.below (h : PlW R B0 wb mb lb nn LA lc L n N W0 lf PA pc pl wr) {w' : World} (hb : Below wr.heap.size wr w') : PlW R B0 wb mb lb nn LA lc L n N W0 lf PA pc pl w' := by
  obtain ⟨f', hw⟩ := h.ww
  exact ⟨⟨f', hw.below hb⟩, h.rl, fun r hr => Nat.lt_of_lt_of_le (h.rs r hr) hb.size, own_below h.lr (Nat.le_refl _) hb, own_below h.pr (Nat.le_refl _) hb, h.pR, h.bl.trans (hb.mono h.b0.1)⟩
theorem PlW.mapped (h : PlW R B0 wb mb lb nn LA lc L n N W0 lf PA pc pl wr) {w' : World} (hg : wr.grownBy w' (some mb)) (hw : ∃ f', WAt w' R B0 wb mb LA lc L n N f') : PlW R B0 wb mb lb nn LA lc L n N W0 lf PA pc pl w' := by
  obtain ⟨f0, hw0⟩ := h.ww
  have hne := (hw0.r0 lb h.rl).2.2
  refine ⟨hw, h.rl, fun r hr => Nat.lt_of_lt_of_le (h.rs r hr) hg.size, h.lr.kept hg (.inr fun e => hne (Option.some.inj e)), h.pr.kept hg (.inr fun e => (hw0.r0 mb (h.pR mb e).1).2.2 rfl), h.pR, h.bl.grown hg h.b0.1 (fun g e => by cases e; exact hw0.b1)⟩
theorem PlW.took (h : PlW R B0 wb mb lb nn LA lc L n N W0 lf PA pc pl wr) {w' : World} {lf' : List Int} (hg : wr.grownBy w' (some lb)) (hO : w'.ownsRow B0 3 1 (.slice (some ⟨lb, 0, none⟩) nn nn) nn (ints lf')) : PlW R B0 wb mb lb nn LA lc L n N W0 lf' PA pc pl w' := by
  obtain ⟨f0, hw0⟩ := h.ww
  exact ⟨⟨f0, hw0.grown hg h.rl⟩, h.rl, fun r hr => Nat.lt_of_lt_of_le (h.rs r hr) hg.size, hO, h.pr.kept hg (.inr fun e => (h.pR lb e).2 rfl), h.pR, h.bl.grown hg h.b0.1 (fun g e => by cases e; exact (hw0.r0 lb h.rl).1)⟩
theorem PlW.other (h : PlW R B0 wb mb lb nn LA lc L n N W0 lf PA pc pl wr) {w' : World} {r : Nat} (hg : wr.grownBy w' (some r)) (hr : R r) (h1 : r ≠ lb) (h2 : (Value.slice PA pl.length pc).ownBlock ≠ some r) : PlW R B0 wb mb lb nn LA lc L n N W0 lf PA pc pl w' := by
  obtain ⟨f0, hw0⟩ := h.ww
  exact ⟨⟨f0, hw0.grown hg hr⟩, h.rl, fun r hr => Nat.lt_of_lt_of_le (h.rs r hr) hg.size, h.lr.kept hg (.inr fun e => h1 (Option.some.inj e).symm), h.pr.kept hg (.inr fun e => h2 e), h.pR, h.bl.grown hg h.b0.1 (fun g e => by cases e; exact (hw0.r0 r hr).1)⟩
theorem PlW.alloc (h : PlW R B0 wb mb lb nn LA lc L n N W0 lf PA pc pl wr) (o : Obj) : PlW (fun r => R r ∨ r = wr.heap.size) B0 wb mb lb nn LA lc L n N W0 lf PA pc pl (wr.alloc o) := by
  obtain ⟨f', hw⟩ := h.ww
  have hb : Below wr.heap.size wr (wr.alloc o) := (Below.refl _ _).alloc (Nat.le_refl _) o
  refine ⟨⟨f', (hw.ext (Nat.le_refl _)).below hb⟩, .inl h.rl, fun r hr => ?_, own_below h.lr (Nat.le_refl _) hb, own_below h.pr (Nat.le_refl _) hb, fun g hg => ⟨.inl (h.pR g hg).1, (h.pR g hg).2⟩, h.bl.trans (hb.mono h.b0.1)⟩
  rcases hr with hr | rfl
  · have := h.rs r hr
    simp
    omega
  · simp
theorem below_of_grown {A B : World} (g : A.grownBy B none) : Below A.heap.size A B := ⟨g.os, g.tape, g.output, g.size, fun k hk => g.block k hk (fun e => by cases e)⟩
/-- Behind an append to the plan. -/
theorem PlW.append (h : PlW R B0 wb mb lb nn LA lc L n N W0 lf PA pc pl wr) {w' : World} {v : V3} {g cap : Nat} (hO : w'.ownsRow B0 62 3 (.slice (some ⟨g, 0, none⟩) (pl.length + 1) cap) (pl.length + 1) (zsC pl ++ v3C v)) (hg : wr.grownBy w' (Value.slice PA pl.length pc).ownBlock) (hat : (Value.slice PA pl.length pc).ownBlock = some g ∨ g = wr.heap.size) (hlt : g < w'.heap.size) :
    PlW (fun r => R r ∨ r = g) B0 wb mb lb nn LA lc L n N W0 lf (some ⟨g, 0, none⟩) cap (pl ++ [v]) w' := by
  obtain ⟨f', hw⟩ := h.ww
  have hlb := (hw.r0 lb h.rl).1
  have hls := h.rs lb h.rl
  have hgl : g ≠ lb := by
    rcases hat with h1 | h1
    · exact (h.pR g h1).2
    · omega
  have hw1 : WAt wr (fun r => R r ∨ r = g) B0 wb mb LA lc L n N f' := by
    rcases hat with h1 | h1
    · have hRg := (h.pR g h1).1
      have e : (fun r => R r ∨ r = g) = R := by
        funext r
        exact propext ⟨fun h2 => by rcases h2 with h2 | rfl; exact h2; exact hRg, .inl⟩
      rw [e]
      exact hw
    · exact hw.ext (by omega)
  have hw2 : WAt w' (fun r => R r ∨ r = g) B0 wb mb LA lc L n N f' := by
    cases hob : (Value.slice PA pl.length pc).ownBlock with
    | none => rw [hob] at hg; exact hw1.below (below_of_grown hg)
    | some g0 => rw [hob] at hg; exact hw1.grown hg (.inl (h.pR g0 hob).1)
  have hl : (pl ++ [v]).length = pl.length + 1 := by simp
  refine ⟨⟨f', hw2⟩, .inl h.rl, fun r hr => ?_, h.lr.kept hg (.inr fun e => (h.pR lb e.symm).2 rfl), ?_, fun g1 hg1 => ?_, h.bl.grown hg h.b0.1 (fun g1 e => (hw.r0 g1 (h.pR g1 e).1).1)⟩
  · rcases hr with hr | rfl
    · exact Nat.lt_of_lt_of_le (h.rs r hr) hg.size
    · exact hlt
  · rw [hl]
    have e : zsC (pl ++ [v]) = zsC pl ++ v3C v := by simp [zsC]
    rw [e]
    exact hO
  · cases hg1
    exact ⟨.inr rfl, hgl⟩
end
end Go.Proofs.YtpphnnijnnfngaaGreatDoor
