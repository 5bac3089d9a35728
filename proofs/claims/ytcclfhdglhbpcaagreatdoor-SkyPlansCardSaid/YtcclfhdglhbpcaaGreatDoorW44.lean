/-
  The walks of the specification's limit and near; what its CheckScopes reckons, in plain words.
-/
import Derived.Test.YtcclfhdglhbpcaaGreatDoorW42
import Derived.Test.YtcclfhdglhbpcaaGreatDoorW39
import Derived.Test.YtcclfhdglhbpcaaGreatDoorW30
import Derived.Deep.DeepCutAuto
namespace Go.Proofs.YtcclfhdglhbpcaaGreatDoor
open Go.RowKit Al

set_option maxRecDepth 100000 in
set_option maxHeartbeats 1000000 in
theorem rlimit_ (n d : Int) (w : World) : Calls Tryz.prog 86 #[.agg #[.int .i64 n, .int .i64 d]] w fun e w' => e = .returned (.bool (limB n d)) ∧ Below w.heap.size w w' := by
  unfold limB
  cases h1 : inB d 1 4096 with
  | true =>
    go_enter Tryz.func86, Tryz.ntmps86
    go_wp2_with fail
    refine (rInB_is d 1 4096 _ h1 _).mono ?_
    rintro e w' ⟨rfl, rfl⟩
    clear h1
    go_wp2_with fail
    refine (rInB_ n 0 d _).mono ?_
    rintro e w' ⟨rfl, rfl⟩
    go_wp2_with fail
    go_ret
    exact ⟨rfl, (by repeat (first | exact Below.refl _ _ | assumption | refine below_drewN ?_ _ | refine Below.drew ?_ | refine Below.setCell ?_ (by first | omega | (simp; done) | (simp; omega)) _ | refine Below.alloc ?_ (by first | omega | (simp; done) | (simp; omega)) _))⟩
  | false =>
    go_enter Tryz.func86, Tryz.ntmps86
    go_wp2_with fail
    refine (rInB_is d 1 4096 _ h1 _).mono ?_
    rintro e w' ⟨rfl, rfl⟩
    clear h1
    go_wp2_with fail
    go_ret
    exact ⟨rfl, (by repeat (first | exact Below.refl _ _ | assumption | refine below_drewN ?_ _ | refine Below.drew ?_ | refine Below.setCell ?_ (by first | omega | (simp; done) | (simp; omega)) _ | refine Below.alloc ?_ (by first | omega | (simp; done) | (simp; omega)) _))⟩
set_option maxRecDepth 100000 in
set_option maxHeartbeats 4000000 in
theorem rnear_ (v u : V3) (N D : Int) (w : World) : Calls Tryz.prog 116 #[v3 v, v3 u, .agg #[.int .i64 N, .int .i64 D]] w fun e w' => e = .returned (.bool (nearW v u N D)) ∧ Below w.heap.size w w' := by
  obtain ⟨a1, a2, a3⟩ := v
  obtain ⟨b1, b2, b3⟩ := u
  obtain ⟨n, hn⟩ : ∃ k, dotW (a1, a2, a3) (b1, b2, b3) = k := ⟨_, rfl⟩
  obtain ⟨p, hp⟩ : ∃ k, dotW (a1, a2, a3) (a1, a2, a3) = k := ⟨_, rfl⟩
  obtain ⟨q, hq⟩ : ∃ k, dotW (b1, b2, b3) (b1, b2, b3) = k := ⟨_, rfl⟩
  have e : nearW (a1, a2, a3) (b1, b2, b3) N D = (decide (0 < n) && decide (wrap64 (wrap64 (N * p) * q) ≤ wrap64 (wrap64 (n * n) * D))) := by
    unfold nearW
    rw [hn, hp, hq]
  rw [e]
  have HD1 : Hid (∀ W, Calls Tryz.prog 104 #[.agg #[.int .i64 a1, .int .i64 a2, .int .i64 a3], .agg #[.int .i64 b1, .int .i64 b2, .int .i64 b3]] W fun e w' => e = .returned (.int .i64 n) ∧ Below W.heap.size W w') := fun W => hn ▸ rdot_ a1 a2 a3 b1 b2 b3 W
  have HD2 : Hid (∀ W, Calls Tryz.prog 104 #[.agg #[.int .i64 a1, .int .i64 a2, .int .i64 a3], .agg #[.int .i64 a1, .int .i64 a2, .int .i64 a3]] W fun e w' => e = .returned (.int .i64 p) ∧ Below W.heap.size W w') := fun W => hp ▸ rdot_ a1 a2 a3 a1 a2 a3 W
  have HD3 : Hid (∀ W, Calls Tryz.prog 104 #[.agg #[.int .i64 b1, .int .i64 b2, .int .i64 b3], .agg #[.int .i64 b1, .int .i64 b2, .int .i64 b3]] W fun e w' => e = .returned (.int .i64 q) ∧ Below W.heap.size W w') := fun W => hq ▸ rdot_ b1 b2 b3 b1 b2 b3 W
  obtain ⟨x, hx⟩ : ∃ k, wrap64 (wrap64 (N * p) * q) = k := ⟨_, rfl⟩
  obtain ⟨y, hy⟩ : ∃ k, wrap64 (wrap64 (n * n) * D) = k := ⟨_, rfl⟩
  rw [hx, hy]
  clear e hn hp hq
  simp only [v3]
  by_cases h0 : 0 < n
  · have hd : decide (0 < n) = true := decide_eq_true h0
    go_enter Tryz.func116, Tryz.ntmps116
    go_wp2_with fail
    refine (HD1.out _).mono ?_
    rintro e w1 ⟨rfl, hb⟩
    obtain ⟨hc1, hf1⟩ := bcell hb
    have HW1 := Lib.hid ((show Below w.heap.size w _ from (by repeat (first | exact Below.refl _ _ | assumption | refine below_drewN ?_ _ | refine Below.drew ?_ | refine Below.setCell ?_ (by first | omega | (simp; done) | (simp; omega)) _ | refine Below.alloc ?_ (by first | omega | (simp; done) | (simp; omega)) _))).trans (hb.mono (by first | omega | (simp; done) | (simp; omega))))
    have hz1 : w.heap.size + 1 + 1 + 1 ≤ w1.heap.size := by have := hb.size; simp at this; omega
    have g0 : w.heap.size < w1.heap.size := by omega
    have g1 : w.heap.size + 1 < w1.heap.size := by omega
    have g2 : w.heap.size + 1 + 1 < w1.heap.size := by omega
    clear hb hz1
    go_wp2_with fail
    refine wp_region_bw2 (by kernel_rfl) (by kernel_rfl) (fun hbwc => ?_)
    repeat (go_big_quiet_step ((first | (go_at_call 104; (with_reducible exact bwCall (HD2.out _))) | (go_at_call 104; (with_reducible exact bwCall (HD3.out _))))))
    refine wpQuiet_nil ?_
    clear hbwc
    intro w2 hb
    have HW2 := Lib.hid (HW1.out.trans (hb.mono HW1.out.size))
    clear hb
    go_wp2_with fail
    go_ret
    exact ⟨ret_bool (by rw [hd, Bool.true_and]), HW2.out⟩
  · have hd : decide (0 < n) = false := decide_eq_false h0
    go_enter Tryz.func116, Tryz.ntmps116
    go_wp2_with fail
    refine (HD1.out _).mono ?_
    rintro e w1 ⟨rfl, hb⟩
    have HW1 := Lib.hid ((show Below w.heap.size w _ from (by repeat (first | exact Below.refl _ _ | assumption | refine below_drewN ?_ _ | refine Below.drew ?_ | refine Below.setCell ?_ (by first | omega | (simp; done) | (simp; omega)) _ | refine Below.alloc ?_ (by first | omega | (simp; done) | (simp; omega)) _))).trans (hb.mono (by first | omega | (simp; done) | (simp; omega))))
    clear hb
    go_wp2_with fail
    refine wp_region_bw2 (by kernel_rfl) (by kernel_rfl) (fun hbwc => ?_)
    repeat (go_big_quiet_step (fail))
    refine wpQuiet_nil ?_
    clear hbwc
    intro w2 hb
    have HW2 := Lib.hid (HW1.out.trans (hb.mono HW1.out.size))
    clear hb
    go_wp2_with fail
    go_ret
    exact ⟨ret_bool (by rw [hd]; rfl), HW2.out⟩
/-- A name among the first j. -/
def distN (M : List Str) (s : Str) (j : Nat) : Bool := (M.take j).all fun y => !(y == s)
theorem distN_succ {M : List Str} {s : Str} {j : Nat} (h : j < M.length) : distN M s (j + 1) = (distN M s j && !(M[j] == s)) := by
  unfold distN
  rw [List.take_succ_eq_append_getElem h, List.all_append]
  simp
def nmsS (L : List Scp) : List Str := L.map fun x => x.nm.data.toList
def scpD : Scp := ⟨⟨#[]⟩, 0, 0, 0, 0, [], none, 0⟩
def rscS (L : List Scp) (i : Nat) : Bool := (isName (L.getD i scpD).nm.data.toList && csA (m0L L) (L.getD i scpD)) && distN (nmsS L) (L.getD i scpD).nm.data.toList i
def scN (L : List Scp) (b : Bool) (k : Nat) : Bool := b && (List.range k).all (rscS L)
theorem scN_succ (L : List Scp) (b : Bool) {k : Nat} (h : k < L.length) : scN L b (k + 1) = (scN L b k && ((isName L[k].nm.data.toList && csA (m0L L) L[k]) && distN (nmsS L) L[k].nm.data.toList k)) := by
  unfold scN
  rw [List.range_succ, List.all_append, ← Bool.and_assoc]
  congr 1
  simp [rscS, h]
theorem scN_is (L : List Scp) : scN L (inB (L.length : Int) 1 4) L.length = scsB L := by
  have e1 : (L.all (csA (m0L L))) = (List.range L.length).all fun i => csA (m0L L) (L.getD i scpD) := by
    rw [Bool.eq_iff_iff, List.all_eq_true, List.all_eq_true]
    constructor
    · intro h i hi
      have hi := List.mem_range.1 hi
      rw [show L.getD i scpD = L[i] by simp [hi]]
      exact h _ (List.getElem_mem hi)
    · intro h x hx
      obtain ⟨i, hi, rfl⟩ := List.getElem_of_mem hx
      have := h i (List.mem_range.2 hi)
      rwa [show L.getD i scpD = L[i] by simp [hi]] at this
  unfold scsB csN scN namedB namedN
  rw [List.take_length, e1, Bool.and_assoc, List.length_map]
  congr 1
  rw [Bool.eq_iff_iff, Bool.and_eq_true, List.all_eq_true, List.all_eq_true, List.all_eq_true]
  have key : ∀ i, i < L.length → (rscS L i = true ↔ nameStep (L.map fun x => x.nm.data.toList) i = true ∧ csA (m0L L) (L.getD i scpD) = true) := by
    intro i hi
    unfold rscS nameStep
    have hg : L.getD i scpD = L[i] := by simp [hi]
    rw [hg, show (L.map fun x => x.nm.data.toList).getD i [] = L[i].nm.data.toList by simp [hi]]
    have e2 : (((L.map fun x => x.nm.data.toList).take i).contains L[i].nm.data.toList) = !distN (nmsS L) L[i].nm.data.toList i := by
      unfold distN nmsS
      generalize (L.map fun x => x.nm.data.toList).take i = M
      generalize L[i].nm.data.toList = s
      induction M with
      | nil => rfl
      | cons y M ih =>
        rw [List.contains_cons, List.all_cons, ih]
        rw [Bool.not_and, Bool.not_not, BEq.comm]
    rw [e2, Bool.not_not]
    simp only [Bool.and_eq_true]
    constructor
    · rintro ⟨⟨a, b⟩, c⟩; exact ⟨⟨a, c⟩, b⟩
    · rintro ⟨⟨a, c⟩, b⟩; exact ⟨⟨a, b⟩, c⟩
  constructor
  · intro h
    exact ⟨fun i hi => ((key i (List.mem_range.1 hi)).1 (h i hi)).1, fun i hi => ((key i (List.mem_range.1 hi)).1 (h i hi)).2⟩
  · rintro ⟨h1, h2⟩ i hi
    exact (key i (List.mem_range.1 hi)).2 ⟨h1 i hi, h2 i hi⟩
/-- A telescope in a box. -/
structure ScB (W : World) (b : Nat) (x : Scp) : Prop where
  hp : W.heap[b]? = some (.cells #[.string x.nm, .int .i64 x.fn, .int .i64 x.fd, .int .i64 x.ln, .int .i64 x.ld, .slice x.ZA x.zs.length x.zc] 119 (0, 0))
section
variable {W W' : World} {b : Nat} {x : Scp}
theorem ScB.lt (h : ScB W b x) : b < W.heap.size := (Array.getElem?_eq_some_iff.1 h.hp).1
theorem ScB.below (h : ScB W b x) (g : Below W.heap.size W W') : ScB W' b x := ⟨(g.block b h.lt).trans h.hp⟩
theorem ScB.all (h : ScB W b x) : W.cell? ⟨b, 0, none⟩ = some (.string x.nm) ∧ W.cell? ⟨b, 1, none⟩ = some (.int .i64 x.fn) ∧ W.cell? ⟨b, 2, none⟩ = some (.int .i64 x.fd) ∧ W.cell? ⟨b, 3, none⟩ = some (.int .i64 x.ln) ∧ W.cell? ⟨b, 4, none⟩ = some (.int .i64 x.ld) ∧ W.cell? ⟨b, 5, none⟩ = some (.slice x.ZA x.zs.length x.zc) := by
  have e := h.hp
  refine ⟨?_, ?_, ?_, ?_, ?_, ?_⟩ <;> simp [World.cell?, e]
end
end Go.Proofs.YtcclfhdglhbpcaaGreatDoor

/-
  The walks of the specification's CheckScopes and scoped, for all inputs.
-/
namespace Go.Proofs.YtcclfhdglhbpcaaGreatDoor
open Go.RowKit Al
attribute [local go_sem ↓] arr_eq

def RgRel (L : List Scp) (b : Bool) (w : World) (o i : Value) (wr : World) : Prop := ∃ k : Nat, k ≤ L.length ∧ i = .int .i64 (k : Int) ∧ o = .bool (scN L b k) ∧ Hid (Below w.heap.size w wr)
def RnRel (M : List Str) (s : Str) (q : Bool) (m : Nat) (w : World) (o j : Value) (wr : World) : Prop := ∃ k : Nat, k ≤ m ∧ j = .int .i64 (k : Int) ∧ o = .bool (q && distN M s k) ∧ Hid (Below w.heap.size w wr)
set_option maxRecDepth 100000 in
set_option maxHeartbeats 16000000 in
theorem rCheckScopes_ (L : List Scp) (A : Option Addr) (c : Nat) (w : World) (hL : Sl w w.heap.size 6 A L.length c (scsC L)) (hz : ∀ x ∈ L, Sl w w.heap.size 3 x.ZA x.zs.length x.zc (zsC x.zs)) (hs : ∀ x ∈ L, x.nm.size ≤ maxLen) :
    Calls Tryz.prog 37 #[.slice A L.length c] w fun e w' => e = .returned (.int .i64 (scE L)) ∧ Below w.heap.size w w' := by
  have HL := Lib.hid hL
  have HZ := Lib.hid hz
  have HM := Lib.hid hs
  have hl : L.length ≤ maxLen := Nat.le_trans hL.cap hL.max
  unfold maxLen at hl
  obtain ⟨ib, hib⟩ : ∃ b, inB (L.length : Int) 1 4 = b := ⟨_, rfl⟩
  have HNB : Hid (scN L ib L.length = scsB L) := by show _ = _; rw [← hib]; exact scN_is L
  have HIB := Lib.hid hib
  have H0 : Hid (scN L ib 0 = ib) := by show _ = _; simp [scN]
  clear hL hz hs hib
  go_enter Tryz.func37, Tryz.ntmps37
  go_wp2_with (go_at_call 29; refine (rInB_ _ _ _ _).mono ?_; rintro e w' ⟨rfl, rfl⟩; rw [HIB.out])
  go_loopw [3, 4] (fun o i wr => RgRel L ib w o i wr) (fun _ i _ => L.length - (intOf i).toNat)
  case atStart => exact ⟨0, Nat.zero_le _, rfl, by rw [H0.out], Below.refl _ _⟩
  case round =>
    obtain ⟨k, hk, rfl, rfl, HB⟩ := hrel
    have hsz := HB.out.size
    by_cases hlt : k < L.length
    · obtain ⟨tb, tof, he, htb, c0, c1, c2, c3, c4, c5⟩ := (HL.out.below HB.out).sc_at hlt
      subst he
      obtain ⟨sb0, so0, he, hsb0, z0, z1, z2, z3, z4, z5⟩ := (HL.out.below HB.out).sc_at (k := 0) (by omega)
      cases he
      simp only [Nat.zero_mul, Nat.add_zero] at z5
      have hm0 : (L[0]'(by omega)).zs.length = m0L L := by unfold m0L; rw [show L.getD 0 ⟨⟨#[]⟩, 0, 0, 0, 0, [], none, 0⟩ = L[0]'(by omega) by simp [show 0 < L.length by omega]]
      rw [hm0] at z5
      obtain ⟨zA0, hzA0⟩ : ∃ a, (L[0]'(by omega)).ZA = a := ⟨_, rfl⟩
      obtain ⟨zc0, hzc0⟩ : ∃ a, (L[0]'(by omega)).zc = a := ⟨_, rfl⟩
      rw [hzA0, hzc0] at z5
      have HS := Lib.hid (scN_succ L ib hlt)
      have hnm := HM.out _ (List.getElem_mem hlt)
      obtain ⟨x, hx⟩ : ∃ x, L[k] = x := ⟨_, rfl⟩
      have hxm : x ∈ L := by rw [← hx]; exact List.getElem_mem hlt
      have HZX := Lib.hid (((HZ.out x hxm).below HB.out).more hsz)
      rw [hx] at c0 c1 c2 c3 c4 c5 HS hnm
      obtain ⟨m0, hm0'⟩ : ∃ m, m0L L = m := ⟨_, rfl⟩
      rw [hm0'] at z5 HS
      have hlt' : (k : Int) < (L.length : Int) := by omega
      have hL0 : (0 : Int) < (L.length : Int) := by omega
      have htb2 : tb < wr.heap.size := by omega
      obtain ⟨q, hq⟩ : ∃ q, scN L ib k = q := ⟨_, rfl⟩
      rw [hq] at HS ⊢
      clear z0 z1 z2 z3 z4 hm0 hzA0 hzc0 hx hxm hm0' hq
      obtain ⟨n1, hn1⟩ : ∃ b, isName x.nm.data.toList = b := ⟨_, rfl⟩
      obtain ⟨f1, hf1⟩ : ∃ b, limB x.fn x.fd = b := ⟨_, rfl⟩
      obtain ⟨f2, hf2⟩ : ∃ b, limB x.ln x.ld = b := ⟨_, rfl⟩
      obtain ⟨f3, hf3⟩ : ∃ b, inB (x.zs.length : Int) 1 8 = b := ⟨_, rfl⟩
      obtain ⟨f4, hf4⟩ : ∃ b, ((x.zs.length : Int) == (m0 : Int)) = b := ⟨_, rfl⟩
      have HCS : Hid ((isName x.nm.data.toList && csB m0 x) = (n1 && (f1 && (f2 && (f3 && f4))))) := by show _ = _; unfold csB; rw [hn1, hf1, hf2, hf3, hf4]
      have HI1 := Lib.hid (fun W => rIsName_ x.nm W hnm)
      have HLF := Lib.hid (fun W => rlimit_ x.fn x.fd W)
      have HLL := Lib.hid (fun W => rlimit_ x.ln x.ld W)
      have HLI := Lib.hid (fun W => rInB_is (x.zs.length : Int) 1 8 f3 hf3 W)
      rw [hn1] at HI1
      rw [hf1] at HLF
      rw [hf2] at HLL
      have HF4 := Lib.hid hf4
      clear hn1 hf1 hf2 hf3
      go_upto_region 6 with fail
      have HX : Hid (ScB (wr.alloc (.cells #[.string x.nm, .int .i64 x.fn, .int .i64 x.fd, .int .i64 x.ln, .int .i64 x.ld, .slice x.ZA x.zs.length x.zc] 119)) wr.heap.size x) := ⟨heap_alloc_new wr _⟩
      have HX1 : Hid (Below wr.heap.size wr (wr.alloc (.cells #[.string x.nm, .int .i64 x.fn, .int .i64 x.fd, .int .i64 x.ln, .int .i64 x.ld, .slice x.ZA x.zs.length x.zc] 119))) := (Below.refl _ _).alloc (Nat.le_refl _) _
      obtain ⟨X, hX⟩ : ∃ X, wr.alloc (.cells #[.string x.nm, .int .i64 x.fn, .int .i64 x.fd, .int .i64 x.ln, .int .i64 x.ld, .slice x.ZA x.zs.length x.zc] 119) = X := ⟨_, rfl⟩
      rw [hX] at HX HX1 ⊢
      have z6 := (HX1.out.cell (p := ⟨tb, tof + 5, none⟩) htb2).trans z5
      have htbX : tb < X.heap.size := by have := HX1.out.size; omega
      obtain ⟨xb, hxb⟩ : ∃ b, wr.heap.size = b := ⟨_, rfl⟩
      rw [hxb] at HX ⊢
      have hxb2 : wr.heap.size ≤ xb := by omega
      clear hX c0 c1 c2 c3 c4 c5 z5 hxb
      go_cut [3] (fun s3 wx => s3 = .bool (q && (isName x.nm.data.toList && csB m0 x)) ∧ Below X.heap.size X wx)
      case first =>
        obtain ⟨x0, x1, x2, x3, x4, x5⟩ := HX.out.all
        have xl := HX.out.lt
        cases q with
        | false =>
          go_wp2_with fail
          refine wp_region_bw2 (by kernel_rfl) (by kernel_rfl) (fun hbwc => ?_)
          repeat (go_big_quiet_step (fail))
          refine wpQuiet_nil ?_
          clear hbwc
          intro w2 hb
          have HB2 := Lib.hid ((show Below X.heap.size X _ from (by repeat (first | exact Below.refl _ _ | assumption | refine below_drewN ?_ _ | refine Below.drew ?_ | refine Below.setCell ?_ (by first | omega | (simp; done) | (simp; omega)) _ | refine Below.alloc ?_ (by first | omega | (simp; done) | (simp; omega)) _))).trans (hb.mono (by first | omega | (simp; done) | (simp; omega))))
          clear hb
          go_wp2_with fail
          go_meet
          case rel => exact ⟨rfl, HB2.out⟩
        | true =>
          cases n1 with
          | false =>
            go_wp2_with fail
            refine wp_region_bw2 (by kernel_rfl) (by kernel_rfl) (fun hbwc => ?_)
            repeat (go_big_quiet_step ((first | (with_reducible exact bwSame (HI1.out _)) | (with_reducible exact bwCall (HLF.out _)) | (with_reducible exact bwCall (HLL.out _)) | (with_reducible exact bwSame (HLI.out _)))))
            refine wpQuiet_nil ?_
            clear hbwc
            intro w2 hb
            have HB2 := Lib.hid ((show Below X.heap.size X _ from (by repeat (first | exact Below.refl _ _ | assumption | refine below_drewN ?_ _ | refine Below.drew ?_ | refine Below.setCell ?_ (by first | omega | (simp; done) | (simp; omega)) _ | refine Below.alloc ?_ (by first | omega | (simp; done) | (simp; omega)) _))).trans (hb.mono (by first | omega | (simp; done) | (simp; omega))))
            clear hb
            go_wp2_with fail
            go_meet
            case rel => exact ⟨by rw [HCS.out]; first | rfl | (rw [← HF4.out]; rfl) | (rw [← HF4.out]; simp) | simp, HB2.out⟩
          | true =>
            cases f1 with
            | false =>
              go_wp2_with fail
              refine wp_region_bw2 (by kernel_rfl) (by kernel_rfl) (fun hbwc => ?_)
              repeat (go_big_quiet_step ((first | (with_reducible exact bwSame (HI1.out _)) | (with_reducible exact bwCall (HLF.out _)) | (with_reducible exact bwCall (HLL.out _)) | (with_reducible exact bwSame (HLI.out _)))))
              refine wpQuiet_nil ?_
              clear hbwc
              intro w2 hb
              have HB2 := Lib.hid ((show Below X.heap.size X _ from (by repeat (first | exact Below.refl _ _ | assumption | refine below_drewN ?_ _ | refine Below.drew ?_ | refine Below.setCell ?_ (by first | omega | (simp; done) | (simp; omega)) _ | refine Below.alloc ?_ (by first | omega | (simp; done) | (simp; omega)) _))).trans (hb.mono (by first | omega | (simp; done) | (simp; omega))))
              clear hb
              go_wp2_with fail
              go_meet
              case rel => exact ⟨by rw [HCS.out]; first | rfl | (rw [← HF4.out]; rfl) | (rw [← HF4.out]; simp) | simp, HB2.out⟩
            | true =>
              cases f2 with
              | false =>
                go_wp2_with fail
                refine wp_region_bw2 (by kernel_rfl) (by kernel_rfl) (fun hbwc => ?_)
                repeat (go_big_quiet_step ((first | (with_reducible exact bwSame (HI1.out _)) | (with_reducible exact bwCall (HLF.out _)) | (with_reducible exact bwCall (HLL.out _)) | (with_reducible exact bwSame (HLI.out _)))))
                refine wpQuiet_nil ?_
                clear hbwc
                intro w2 hb
                have HB2 := Lib.hid ((show Below X.heap.size X _ from (by repeat (first | exact Below.refl _ _ | assumption | refine below_drewN ?_ _ | refine Below.drew ?_ | refine Below.setCell ?_ (by first | omega | (simp; done) | (simp; omega)) _ | refine Below.alloc ?_ (by first | omega | (simp; done) | (simp; omega)) _))).trans (hb.mono (by first | omega | (simp; done) | (simp; omega))))
                clear hb
                go_wp2_with fail
                go_meet
                case rel => exact ⟨by rw [HCS.out]; first | rfl | (rw [← HF4.out]; rfl) | (rw [← HF4.out]; simp) | simp, HB2.out⟩
              | true =>
                cases f3 with
                | false =>
                  go_wp2_with fail
                  refine wp_region_bw2 (by kernel_rfl) (by kernel_rfl) (fun hbwc => ?_)
                  repeat (go_big_quiet_step ((first | (with_reducible exact bwSame (HI1.out _)) | (with_reducible exact bwCall (HLF.out _)) | (with_reducible exact bwCall (HLL.out _)) | (with_reducible exact bwSame (HLI.out _)))))
                  refine wpQuiet_nil ?_
                  clear hbwc
                  intro w2 hb
                  have HB2 := Lib.hid ((show Below X.heap.size X _ from (by repeat (first | exact Below.refl _ _ | assumption | refine below_drewN ?_ _ | refine Below.drew ?_ | refine Below.setCell ?_ (by first | omega | (simp; done) | (simp; omega)) _ | refine Below.alloc ?_ (by first | omega | (simp; done) | (simp; omega)) _))).trans (hb.mono (by first | omega | (simp; done) | (simp; omega))))
                  clear hb
                  go_wp2_with fail
                  go_meet
                  case rel => exact ⟨by rw [HCS.out]; first | rfl | (rw [← HF4.out]; rfl) | (rw [← HF4.out]; simp) | simp, HB2.out⟩
                | true =>
                  go_wp2_with fail
                  refine wp_region_bw2 (by kernel_rfl) (by kernel_rfl) (fun hbwc => ?_)
                  repeat (go_big_quiet_step ((first | (with_reducible exact bwSame (HI1.out _)) | (with_reducible exact bwCall (HLF.out _)) | (with_reducible exact bwCall (HLL.out _)) | (with_reducible exact bwSame (HLI.out _)))))
                  refine wpQuiet_nil ?_
                  clear hbwc
                  intro w2 hb
                  have HB2 := Lib.hid ((show Below X.heap.size X _ from (by repeat (first | exact Below.refl _ _ | assumption | refine below_drewN ?_ _ | refine Below.drew ?_ | refine Below.setCell ?_ (by first | omega | (simp; done) | (simp; omega)) _ | refine Below.alloc ?_ (by first | omega | (simp; done) | (simp; omega)) _))).trans (hb.mono (by first | omega | (simp; done) | (simp; omega))))
                  clear hb
                  go_wp2_with fail
                  go_meet
                  case rel => exact ⟨by rw [HCS.out]; first | rfl | (rw [← HF4.out]; rfl) | (rw [← HF4.out]; simp) | simp, HB2.out⟩
      case rest =>
        obtain ⟨rfl, hb⟩ := hcut
        rename World => wc
        have HBC : Hid (Below w.heap.size w wc) := HB.out.trans ((HX1.out.trans (hb.mono HX1.out.size)).mono hsz)
        have HXC := Lib.hid (HX.out.below hb)
        have HZC : Hid (Sl wc wc.heap.size 3 x.ZA x.zs.length x.zc (zsC x.zs)) := (HZX.out.below (HX1.out.trans (hb.mono HX1.out.size))).more (by have := HX1.out.size; have := hb.size; omega)
        have hwc : w.heap.size ≤ wc.heap.size := HBC.out.size
        have HCA : Hid ((isName x.nm.data.toList && csA m0 x) = ((isName x.nm.data.toList && csB m0 x) && x.zs.all zB)) := by show _ = _; unfold csA; rw [Bool.and_assoc]
        clear hb HCS HI1 HLF HLL HLI HF4 hf4 z6 htbX
        obtain ⟨nc, hnc⟩ : ∃ b, (isName x.nm.data.toList && csB m0 x) = b := ⟨_, rfl⟩
        rw [hnc] at HCA ⊢
        obtain ⟨sq, hsq⟩ : ∃ b, (q && nc) = b := ⟨_, rfl⟩
        have HSQ := Lib.hid hsq
        have hzl : x.zs.length ≤ maxLen := Nat.le_trans HZC.out.cap HZC.out.max
        unfold maxLen at hzl
        rw [hsq]
        clear hsq hnc
        go_wp2_with fail
        go_loopw [3, 6] (fun o i wr => ChRel x.zs sq wc o i wr) (fun _ i _ => x.zs.length - (intOf i).toNat)
        case atStart => exact ⟨0, Nat.zero_le _, rfl, by simp, Below.refl _ _⟩
        case round =>
          obtain ⟨j, hj, rfl, rfl, HBj⟩ := hrel
          have hszj := HBj.out.size
          by_cases hjt : j < x.zs.length
          · obtain ⟨zb, zof, hza, hzb, d0, d1, d2⟩ := (HZC.out.below HBj.out).z_at hjt
            have HZS := Lib.hid (all_take_succ zB hjt)
            obtain ⟨z, hzz⟩ : ∃ z, x.zs[j] = z := ⟨_, rfl⟩
            rw [hzz] at d0 d1 d2 HZS
            have hcz := HZC.out.cap
            obtain ⟨y0, -, -, -, -, y5⟩ := (HXC.out.below HBj.out).all
            have yl := (HXC.out.below HBj.out).lt
            rw [hza] at y5
            clear hzz
            obtain ⟨a, b, cc⟩ := z
            obtain ⟨r, hr⟩ : ∃ r, (sq && (x.zs.take j).all zB) = r := ⟨_, rfl⟩
            have HR := Lib.hid hr
            rw [hr]
            obtain ⟨m1, hm1⟩ : ∃ m, mostB (a, b, cc) 1000 = m := ⟨_, rfl⟩
            obtain ⟨z1, hz1⟩ : ∃ m, (a == 0 && (b == 0 && cc == 0)) = m := ⟨_, rfl⟩
            have HZV : Hid (zB (a, b, cc) = (m1 && !z1)) := by show _ = _; unfold zB nzB; simp only; rw [hm1, hz1]
            have HMO := Lib.hid (fun W => rvector_ a b cc 1000 (w64 (by decide) (by decide)) W)
            rw [hm1] at HMO
            have hjt' : (j : Int) < (x.zs.length : Int) := by omega
            have hcz' : (x.zs.length : Int) ≤ (x.zc : Int) := by omega
            have hzb2 : zb < wr.heap.size := by omega
            simp only at d0 d1 d2
            clear hr hm1
            cases r with
            | false =>
              go_wp2_with fail
              go_roundw
              case rel => exact ⟨j + 1, by omega, by go_num, by rw [HZS.out, ← Bool.and_assoc, HR.out]; rfl, HBj⟩
              case measure => simp [intOf]; omega
            | true =>
              go_wp2_with fail
              refine (HMO.out _).mono ?_
              rintro e w3 ⟨rfl, hb⟩
              have HB3 := Lib.hid (HBj.out.trans (hb.mono hszj))
              have v0 := (hb.cell (p := ⟨zb, zof + j * 3, none⟩) hzb2).trans d0
              have v1 := (hb.cell (p := ⟨zb, zof + j * 3 + 1, none⟩) hzb2).trans d1
              have v2 := (hb.cell (p := ⟨zb, zof + j * 3 + 2, none⟩) hzb2).trans d2
              have v5 := (hb.cell (p := ⟨xb, 5, none⟩) yl).trans y5
              clear hb d0 d1 d2 y5 y0
              cases m1 with
              | false =>
                go_wp2_with fail
                go_roundw
                case rel => exact ⟨j + 1, by omega, by go_num, by rw [HZS.out, ← Bool.and_assoc, HR.out, HZV.out]; rfl, HB3⟩
                case measure => simp [intOf]; omega
              | true =>
                cases z1 with
                | false =>
                  go_wp2_with fail
                  go_roundw
                  case rel => exact ⟨j + 1, by omega, by go_num, by rw [HZS.out, ← Bool.and_assoc, HR.out, HZV.out]; first | rfl | simp, HB3⟩
                  case measure => simp [intOf]; omega
                | true =>
                  go_wp2_with fail
                  go_roundw
                  case rel => exact ⟨j + 1, by omega, by go_num, by rw [HZS.out, ← Bool.and_assoc, HR.out, HZV.out]; first | rfl | simp, HB3⟩
                  case measure => simp [intOf]; omega
          · obtain rfl : j = x.zs.length := by omega
            have HBE := Lib.hid (HBC.out.trans (HBj.out.mono hwc))
            have HXE := Lib.hid (HXC.out.below HBj.out)
            have hwe : w.heap.size ≤ wr.heap.size := HBE.out.size
            rw [List.take_length]
            obtain ⟨y0, -, -, -, -, y5⟩ := HXE.out.all
            have yl := HXE.out.lt
            obtain ⟨sr, hsr⟩ : ∃ b, (sq && x.zs.all zB) = b := ⟨_, rfl⟩
            have HSR : Hid ((q && (isName x.nm.data.toList && csA m0 x)) = sr) := by show _ = _; rw [HCA.out, ← Bool.and_assoc, HSQ.out, hsr]
            rw [hsr]
            obtain ⟨ne, hne⟩ : ∃ l, x.nm.data.toList = l := ⟨_, rfl⟩
            have HNE := Lib.hid hne
            rw [hne] at HS HSR
            clear hsr hne HBj hszj HSQ HCA
            obtain ⟨we, hwE⟩ : ∃ W, wr = W := ⟨_, rfl⟩
            rw [hwE] at HBE HXE hwe y0 y5 yl ⊢
            clear hwE
            go_wp2_with fail
            go_loopw [3, 7] (fun o j wr => RnRel (nmsS L) ne sr k we o j wr) (fun _ j _ => k - (intOf j).toNat)
            case atStart => exact ⟨0, Nat.zero_le _, rfl, by simp [distN], Below.refl _ _⟩
            case round =>
              obtain ⟨j, hj, rfl, rfl, HBJ⟩ := hrel
              have hszj := HBJ.out.size
              by_cases hjk : j < k
              · obtain ⟨tb', tof', hA, htb', d0, -⟩ := (HL.out.below (HBE.out.trans (HBJ.out.mono hwe))).sc_at (k := j) (by omega)
                cases hA
                have hds := distN_succ (M := nmsS L) (s := ne) (j := j) (by unfold nmsS; rw [List.length_map]; omega)
                rw [show (nmsS L)[j]'(by unfold nmsS; rw [List.length_map]; omega) = (L[j]'(by omega)).nm.data.toList by simp [nmsS]] at hds
                obtain ⟨ym, hym⟩ : ∃ s, (L[j]'(by omega)).nm = s := ⟨_, rfl⟩
                rw [hym] at d0 hds
                obtain ⟨y0, -⟩ := (HXE.out.below HBJ.out).all
                have yl := (HXE.out.below HBJ.out).lt
                have hj0 : (0 : Int) ≤ (j : Int) := by omega
                have hj1 : (j : Int) < (L.length : Int) := by omega
                have hj2 : (j : Int) < (k : Int) := by omega
                have htb3 : tb < wr.heap.size := by omega
                obtain ⟨dq, hdq⟩ : ∃ b, distN (nmsS L) ne j = b := ⟨_, rfl⟩
                rw [hdq] at hds
                have HDS := Lib.hid hds
                rw [hdq]
                obtain ⟨r, hr⟩ : ∃ b, (sr && dq) = b := ⟨_, rfl⟩
                have HRR := Lib.hid hr
                rw [hr]
                clear hym hds hdq hr
                cases r with
                | false =>
                  go_wp2_with fail
                  refine wp_region_bw2 (by kernel_rfl) (by kernel_rfl) (fun hbwc => ?_)
                  repeat (go_big_quiet_step (fail))
                  refine wpQuiet_nil ?_
                  clear hbwc
                  intro w8 hb
                  have HB8 := Lib.hid (HBJ.out.trans (((show Below wr.heap.size wr _ from (by repeat (first | exact Below.refl _ _ | assumption | refine below_drewN ?_ _ | refine Below.drew ?_ | refine Below.setCell ?_ (by first | omega | (simp; done) | (simp; omega)) _ | refine Below.alloc ?_ (by first | omega | (simp; done) | (simp; omega)) _))).trans (hb.mono (by first | omega | (simp; done) | (simp; omega)))).mono hszj))
                  clear hb
                  go_wp2_with fail
                  go_roundw
                  case rel => exact ⟨j + 1, by omega, by go_num, by rw [HDS.out, ← Bool.and_assoc, HRR.out]; rfl, HB8⟩
                  case measure => simp [intOf]; omega
                | true =>
                  cases he : (ym.toList == x.nm.toList) with
                  | true =>
                    have HE : Hid ((ym.data.toList == ne) = true) := by show _ = _; rw [← HNE.out, ← Lib.toList_data, ← Lib.toList_data]; exact he
                    go_wp2_with fail
                    refine wp_region_bw2 (by kernel_rfl) (by kernel_rfl) (fun hbwc => ?_)
                    repeat (go_big_quiet_step (fail))
                    refine wpQuiet_nil ?_
                    clear hbwc
                    intro w8 hb
                    have HB8 := Lib.hid (HBJ.out.trans (((show Below wr.heap.size wr _ from (by repeat (first | exact Below.refl _ _ | assumption | refine below_drewN ?_ _ | refine Below.drew ?_ | refine Below.setCell ?_ (by first | omega | (simp; done) | (simp; omega)) _ | refine Below.alloc ?_ (by first | omega | (simp; done) | (simp; omega)) _))).trans (hb.mono (by first | omega | (simp; done) | (simp; omega)))).mono hszj))
                    clear hb
                    go_wp2_with fail
                    go_roundw
                    case rel => exact ⟨j + 1, by omega, by go_num, by rw [HDS.out, ← Bool.and_assoc, HRR.out, HE.out]; rfl, HB8⟩
                    case measure => simp [intOf]; omega
                  | false =>
                    have HE : Hid ((ym.data.toList == ne) = false) := by show _ = _; rw [← HNE.out, ← Lib.toList_data, ← Lib.toList_data]; exact he
                    go_wp2_with fail
                    refine wp_region_bw2 (by kernel_rfl) (by kernel_rfl) (fun hbwc => ?_)
                    repeat (go_big_quiet_step (fail))
                    refine wpQuiet_nil ?_
                    clear hbwc
                    intro w8 hb
                    have HB8 := Lib.hid (HBJ.out.trans (((show Below wr.heap.size wr _ from (by repeat (first | exact Below.refl _ _ | assumption | refine below_drewN ?_ _ | refine Below.drew ?_ | refine Below.setCell ?_ (by first | omega | (simp; done) | (simp; omega)) _ | refine Below.alloc ?_ (by first | omega | (simp; done) | (simp; omega)) _))).trans (hb.mono (by first | omega | (simp; done) | (simp; omega)))).mono hszj))
                    clear hb
                    go_wp2_with fail
                    go_roundw
                    case rel => exact ⟨j + 1, by omega, by go_num, by rw [HDS.out, ← Bool.and_assoc, HRR.out, HE.out]; rfl, HB8⟩
                    case measure => simp [intOf]; omega
              · obtain rfl : j = k := by omega
                have HBF := Lib.hid (HBE.out.trans (HBJ.out.mono hwe))
                go_wp2_with fail
                go_roundw
                case rel =>
                  (first | exact ⟨j + 1, by omega, by go_num, by rw [HS.out, ← Bool.and_assoc, HSR.out], HBF⟩ | ((repeat apply Exists.intro); refine ⟨⟨j + 1, by omega, by go_num, by rw [HS.out, ← Bool.and_assoc, HSR.out], HBF⟩, ?_⟩; (repeat refine ⟨rfl, ?_⟩); exact rfl))
                case measure => simp [intOf]; omega
    · obtain rfl : k = L.length := by omega
      rw [HNB.out]
      cases hn : scsB L with
      | false =>
        have HE : Hid (scE L = 94) := by show _ = _; unfold scE; rw [hn]; rfl
        go_wp2_with fail
        go_ret
        exact ⟨by rw [HE.out]; rfl, HB.out⟩
      | true =>
        have HE : Hid (scE L = 0) := by show _ = _; unfold scE; rw [hn]; rfl
        go_wp2_with fail
        go_ret
        exact ⟨by rw [HE.out]; rfl, HB.out⟩
/-- The first error of telescopes and a grid, as the specification looks for it. -/
theorem rscoped_ (L : List Scp) (A : Option Addr) (c : Nat) (n : Int) (w : World) (hL : Sl w w.heap.size 6 A L.length c (scsC L)) (hz : ∀ x ∈ L, Sl w w.heap.size 3 x.ZA x.zs.length x.zc (zsC x.zs)) (hs : ∀ x ∈ L, x.nm.size ≤ maxLen) :
    Calls Tryz.prog 90 #[.slice A L.length c, .int .i64 n] w fun e w' => e = .returned (.int .i64 (gW L n)) ∧ Below w.heap.size w w' := by
  have HCN := Lib.hid (rCheckScopes_ L A c w hL hz hs)
  clear hL hz hs
  rcases scE_cases L with h | h
  · have hg : gW L n = if inB n 1 8 then 0 else 91 := by
      unfold gW
      rw [h]
      rfl
    have HG := Lib.hid hg
    rw [h] at HCN
    obtain ⟨tt, ht⟩ : ∃ b, inB n 1 8 = b := ⟨_, rfl⟩
    rw [ht] at HG
    clear hg h
    cases tt with
    | true =>
      go_enter Tryz.func90, Tryz.ntmps90
      go_wp2_with fail
      refine HCN.out.mono ?_
      rintro e w1 ⟨rfl, hb⟩
      have HB := Lib.hid hb
      clear hb
      go_wp2_with (go_at_call 29; refine (rInB_ _ _ _ _).mono ?_; rintro e w' ⟨rfl, rfl⟩; rw [ht])
      go_ret
      exact ⟨by rw [HG.out]; rfl, HB.out⟩
    | false =>
      go_enter Tryz.func90, Tryz.ntmps90
      go_wp2_with fail
      refine HCN.out.mono ?_
      rintro e w1 ⟨rfl, hb⟩
      have HB := Lib.hid hb
      clear hb
      go_wp2_with (go_at_call 29; refine (rInB_ _ _ _ _).mono ?_; rintro e w' ⟨rfl, rfl⟩; rw [ht])
      go_ret
      exact ⟨by rw [HG.out]; rfl, HB.out⟩
  · have hg : gW L n = 94 := by unfold gW; rw [h]; rfl
    have HG := Lib.hid hg
    rw [h] at HCN
    clear hg h
    go_enter Tryz.func90, Tryz.ntmps90
    go_wp2_with fail
    refine HCN.out.mono ?_
    rintro e w1 ⟨rfl, hb⟩
    have HB := Lib.hid hb
    clear hb
    go_wp2_with fail
    go_ret
    exact ⟨by rw [HG.out]; rfl, HB.out⟩
end Go.Proofs.YtcclfhdglhbpcaaGreatDoor
