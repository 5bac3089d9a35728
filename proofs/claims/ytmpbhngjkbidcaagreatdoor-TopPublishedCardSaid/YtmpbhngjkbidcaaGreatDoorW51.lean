/-
  TopPublished: what lies still beside the board; the office's post; the lists of notices.
-/
import Derived.Test.YtmpbhngjkbidcaaGreatDoorW50
import Derived.Test.YtmpbhngjkbidcaaGreatDoorW44
import Derived.Test.YtmpbhngjkbidcaaGreatDoorW23
import Derived.Test.YtmpbhngjkbidcaaGreatDoorW37
import Derived.Deep.RegionHeld3
namespace Go.Proofs.YtmpbhngjkbidcaaGreatDoor
open Go.RowKit Al

/-- What lies still while the board grows. -/
structure TpEnv (W : World) (lo xb qb qo rb : Nat) (g limit p1 p2 p3 xn xo : Int) (CL : List Int) (CA : Option Addr) (cc : Nat) (K : Option Addr) (kc : Nat) : Prop where
  y6 : W.cell? ⟨xb, 6, none⟩ = some (.int .i64 g)
  y8 : W.cell? ⟨xb, 8, none⟩ = some (.int .i64 limit)
  c0 : W.cell? ⟨qb, qo, none⟩ = some (.int .i64 p1)
  c1 : W.cell? ⟨qb, qo + 1, none⟩ = some (.int .i64 p2)
  c2 : W.cell? ⟨qb, qo + 2, none⟩ = some (.int .i64 p3)
  c3 : W.cell? ⟨qb, qo + 3, none⟩ = some (.int .i64 xn)
  c4 : W.cell? ⟨qb, qo + 4, none⟩ = some (.int .i64 xo)
  r0 : W.cell? ⟨rb, 0, none⟩ = some (.slice K 2 kc)
  r1 : W.cell? ⟨rb, 1, none⟩ = some (.int .i64 2)
  cl : Sl W lo 1 CA CL.length cc (ints CL)
  k : Sl W lo 2 K 2 kc (keyCells offK)
  xl : xb < lo
  ql : qb < lo
  rl : rb < lo
  lo : lo ≤ W.heap.size
theorem TpEnv.below {W W' : World} {lo xb qb qo rb : Nat} {g limit p1 p2 p3 xn xo : Int} {CL : List Int} {CA : Option Addr} {cc : Nat} {K : Option Addr} {kc : Nat} (h : TpEnv W lo xb qb qo rb g limit p1 p2 p3 xn xo CL CA cc K kc) (hb : Below lo W W') : TpEnv W' lo xb qb qo rb g limit p1 p2 p3 xn xo CL CA cc K kc :=
  ⟨(hb.cell (p := ⟨xb, 6, none⟩) h.xl).trans h.y6, (hb.cell (p := ⟨xb, 8, none⟩) h.xl).trans h.y8, (hb.cell (p := ⟨qb, qo, none⟩) h.ql).trans h.c0, (hb.cell (p := ⟨qb, qo + 1, none⟩) h.ql).trans h.c1, (hb.cell (p := ⟨qb, qo + 2, none⟩) h.ql).trans h.c2, (hb.cell (p := ⟨qb, qo + 3, none⟩) h.ql).trans h.c3, (hb.cell (p := ⟨qb, qo + 4, none⟩) h.ql).trans h.c4,
    (hb.cell (p := ⟨rb, 0, none⟩) h.rl).trans h.r0, (hb.cell (p := ⟨rb, 1, none⟩) h.rl).trans h.r1, h.cl.below hb, h.k.below hb, h.xl, h.ql, h.rl, Nat.le_trans h.lo hb.size⟩
/-- A post at the office's board: its answer is known. -/
theorem oPost_ (T : Nat → Prop) (b : Nat) (ns : List Ntc) (n : Ntc) (A : Option Addr) (c : Nat) (Z : Option Addr) (zc : Nat) (k : Int) (w : World)
    (h : Bd w T b offK 2 ns) (hn : NIn w n A c Z zc) (ht : Rdy w) (hna : SlR w (fun i => ¬ T i) 1 A n.a.cells.length c (ints n.a.cells)) (hv : postE offK 2 ns n = k) :
    Calls Tryz.prog 21 #[.pointer (some ⟨b, 0, none⟩), n.val A c Z zc] w fun e w' => e = .returned (.int .i64 k) ∧ Bd w' (fun i => (T i ∨ w.heap.size ≤ i) ∧ i < w'.heap.size) b offK 2 (postN offK 2 ns n) ∧ Kp T w w' :=
  (Post_ T b offK 2 ns n A c Z zc w h hn ht hna).mono fun _ _ ⟨h1, h2, h3⟩ => ⟨by rw [h1, hv], h2.cut, h3⟩
theorem Nn.nin {w : World} {hi n0 p : Nat} {n : Ntc} {A : Option Addr} {c : Nat} {S : Option Addr} {sc : Nat} (h : Nn w hi n0 p n A c S sc) (ha : AIn w n.a A c) : NIn w n A c S sc := ⟨ha, h.sl.sl⟩
/-- What a cut hands on: an error, and a world that is only more. -/
def NiK (w6 : World) (k : Int) (s17 : Value) (wx : World) : Prop := ∃ W : World, W = wx ∧ s17 = .int .i64 k ∧ Below w6.heap.size w6 wx
theorem NiA.k {w6 : World} {x : Alr} {s16 s17 : Value} {wx : World} {k : Int} (h : NiA w6 x s16 s17 wx) : NiK w6 k (.int .i64 k) wx := by
  obtain ⟨W, p, A, c, e, _, _, _, hb⟩ := h
  exact ⟨W, e, rfl, hb⟩
/-- Four lists of notices in memory, and a list of them. -/
def AllN (w : World) (LL : Nat → List It) (s22 : Value) (wx : World) : Prop :=
  ∃ (W : World) (b : Nat), W = wx ∧ s22 = .slice (some ⟨b, 0, none⟩) 4 4 ∧ b < wx.heap.size ∧ (∀ k, k < 4 → ∃ A nc, wx.cell? ⟨b, k, none⟩ = some (.slice A (LL k).length nc) ∧ Sl wx wx.heap.size 10 A (LL k).length nc (itCells (LL k))) ∧ Below w.heap.size w wx
theorem sl_lit (w : World) (L : List It) (a : Array Value) (m : Nat) (ha : a.toList = itCells L) (hm : L.length = m) (hb : m ≤ maxLen) : Sl (w.alloc (.cells a 72)) (w.heap.size + 1) 10 (some ⟨w.heap.size, 0, none⟩) L.length m (itCells L) := by
  have hs : a.size = m * 10 := by rw [← Array.length_toList, ha, itCells_len, hm]
  have h := World.ownsRow_lit (base := 0) (e := 72) (size := 10) w a m (Nat.zero_le _) hb hs
  rw [ha] at h
  have h2 := Sl.of_own h
  rw [hm]
  simpa using h2
theorem all_lit (w : World) (LL : Nat → List It) (a0 a1 a2 a3 : Array Value) (h0 : a0.toList = itCells (LL 0)) (h1 : a1.toList = itCells (LL 1)) (h2 : a2.toList = itCells (LL 2)) (h3 : a3.toList = itCells (LL 3)) (n0 : (LL 0).length = 3) (n1 : (LL 1).length = 3) (n2 : (LL 2).length = 2) (n3 : (LL 3).length = 1) :
    AllN w LL (.slice (some ⟨w.heap.size + 1 + 1 + 1 + 1, 0, none⟩) 4 4)
      (((((w.alloc (.cells a0 72)).alloc (.cells a1 72)).alloc (.cells a2 72)).alloc (.cells a3 72)).alloc (.cells #[.slice (some ⟨w.heap.size, 0, none⟩) 3 3, .slice (some ⟨w.heap.size + 1, 0, none⟩) 3 3, .slice (some ⟨w.heap.size + 1 + 1, 0, none⟩) 2 2, .slice (some ⟨w.heap.size + 1 + 1 + 1, 0, none⟩) 1 1] 78)) := by
  have al : ∀ (W : World) (o : Obj), Below W.heap.size W (W.alloc o) := fun W o => (Below.refl _ _).alloc (Nat.le_refl _) o
  have s0 := sl_lit w (LL 0) a0 3 h0 n0 (by decide)
  have s1 := sl_lit (w.alloc (.cells a0 72)) (LL 1) a1 3 h1 n1 (by decide)
  have s2 := sl_lit ((w.alloc (.cells a0 72)).alloc (.cells a1 72)) (LL 2) a2 2 h2 n2 (by decide)
  have s3 := sl_lit (((w.alloc (.cells a0 72)).alloc (.cells a1 72)).alloc (.cells a2 72)) (LL 3) a3 1 h3 n3 (by decide)
  simp only [World.size_alloc] at s1 s2 s3
  refine ⟨_, _, rfl, rfl, by simp, fun k hk => ?_, ?_⟩
  · have hk' : k = 0 ∨ k = 1 ∨ k = 2 ∨ k = 3 := by omega
    rcases hk' with rfl | rfl | rfl | rfl
    · refine ⟨some ⟨w.heap.size, 0, none⟩, 3, by rw [n0]; simp [go_sem], ?_⟩
      exact (((((s0.below ((al _ _).mono (by simp))).below ((al _ _).mono (by simp))).below ((al _ _).mono (by simp))).below ((al _ _).mono (by simp)))).more (by first | (simp; done) | (simp; omega))
    · refine ⟨some ⟨w.heap.size + 1, 0, none⟩, 3, by rw [n1]; simp [go_sem], ?_⟩
      exact ((((s1.below ((al _ _).mono (by simp))).below ((al _ _).mono (by simp))).below ((al _ _).mono (by simp)))).more (by first | (simp; done) | (simp; omega))
    · refine ⟨some ⟨w.heap.size + 1 + 1, 0, none⟩, 2, by rw [n2]; simp [go_sem], ?_⟩
      exact (((s2.below ((al _ _).mono (by simp))).below ((al _ _).mono (by simp)))).more (by first | (simp; done) | (simp; omega))
    · refine ⟨some ⟨w.heap.size + 1 + 1 + 1, 0, none⟩, 1, by rw [n3]; simp [go_sem], ?_⟩
      exact ((s3.below ((al _ _).mono (by simp)))).more (by first | (simp; done) | (simp; omega))
  · exact (((((Below.refl _ w).alloc (Nat.le_refl _) _).alloc (by simp) _).alloc (by simp; omega) _).alloc (by simp; omega) _).alloc (by simp; omega) _
/-- The orders in which the notices come. -/
def LLn (x y z : It) : Nat → List It
  | 0 => [x, y, z]
  | 1 => [z, y, x]
  | 2 => [y, z]
  | _ => [y]
theorem LLn_mem {x y z a : It} {k : Nat} (h : a ∈ LLn x y z k) : a = x ∨ a = y ∨ a = z := by
  unfold LLn at h
  split at h <;> (simp at h; first | (rcases h with h | h | h <;> simp [h]; done) | (rcases h with h | h <;> simp [h]; done) | simp [h])
theorem LLn_y {x y z : It} {k : Nat} : y ∈ LLn x y z k := by
  unfold LLn
  split <;> simp
theorem LLn_len {x y z : It} {k : Nat} : (LLn x y z k).length ≤ 3 := by
  unfold LLn
  split <;> simp
end Go.Proofs.YtmpbhngjkbidcaaGreatDoor

/-
  What the pieces of TopPublished's walk share: the code from a region on.
-/
namespace Go.Proofs.YtmpbhngjkbidcaaGreatDoor
open Go.RowKit Al

def headRegion : Code → Option Nat
  | .region id _ _ => some id
  | .seq a _ => headRegion a
  | .block _ c => headRegion c
  | .scope c => headRegion c
  | _ => none
/-- The code from the statement on that begins with region n. -/
def suffixAt (n : Nat) : Code → Option Code
  | .seq a b => if headRegion a = some n then some (.seq a b) else match suffixAt n b with
    | some c => some c
    | none => suffixAt n a
  | .block _ c => suffixAt n c
  | .scope c => suffixAt n c
  | _ => none
noncomputable def tpC (n : Nat) : Code := ((Tryz.f4.body.bind (suffixAt n)).getD .skip)
def TpEx (w w4 : World) (lo qb qo rb : Nat) (g limit p1 p2 p3 xn xo : Int) (CL : List Int) (CA : Option Addr) (cc : Nat) (K : Option Addr) (kc : Nat) : Prop :=
  ∀ W, Below lo w4 W → TpEnv W lo w.heap.size qb qo rb g limit p1 p2 p3 xn xo CL CA cc K kc ∧ RdyP W ∧ Below w.heap.size w W
end Go.Proofs.YtmpbhngjkbidcaaGreatDoor

/-
  TopPublished, a piece of its walk: the loop of the four Settles
-/
namespace Go.Proofs.YtmpbhngjkbidcaaGreatDoor
open Go.RowKit Al

set_option maxRecDepth 100000 in
set_option maxHeartbeats 16000000 in
theorem ltop_31 {w w4 : World} {lo qb qo rb cc kc : Nat} {g limit p1 p2 p3 xn xo : Int} {CL : List Int} {CA K : Option Addr} {w19 : World} {ab : Nat} {X Y Z : It} {u0 u1 u2 u3 u4 u5 u6 u8 u9 u10 u11 u12 u13 u14 u15 u16 u17 u18 u19 u20 u21 u23 u24 u25 u26 u27 u28 u29 u30 u31 u32 u33 u34 u35 u36 u37 u38 u39 u40 u41 u42 u43 u44 u45 u46 u47 u48 u49 u50 u51 u52 u53 u54 u55 u56 u57 u58 u59 u60 u61 u62 u63 u64 u65 u66 u67 u68 u69 u70 u71 u72 u73 u74 u75 u76 u77 u78 u79 u80 u81 u82 u83 u84 u85 u86 u87 u88 u89 u90 u91 u92 u93 u94 u95 u96 u97 u98 u99 u100 u101 u102 u103 u104 u105 u106 u107 u108 u109 u110 u111 u112 u113 u114 u115 u116 u117 u118 u119 u120 u121 u122 u123 u124 u125 u126 u127 u128 u129 u130 u131 u132 u133 u134 u135 u136 u137 u138 u139 u140 u141 u142 u143 u144 u145 u146 u147 u148 u149 u150 u151 u152 u153 u154 u155 u156 u157 u158 u159 u160 u161 u162 u163 u164 u165 u166 u167 u168 u169 u170 u171 u172 u173 u174 u175 u176 u177 u178 u179 u180 u181 u182 u183 u184 u185 u186 u187 u188 u189 u190 u191 u192 u193 u194 u195 u196 u197 u198 u199 u200 u201 u202 u203 u204 u205 u206 u207 u208 u209 u210 u211 u212 u213 u214 u215 u216 u217 u218 u219 u220 u221 u222 u223 u224 u225 u226 u227 u228 u229 u230 u231 u232 u233 u234 u235 u236 u237 u238 u239 u240 u241 u242 u243 u244 u245 u246 u247 u248 u249 u250 u251 u252 u253 u254 u255 u256 u257 u258 u259 u260 u261 u262 u263 u264 : Value} (hEX : TpEx w w4 lo qb qo rb g limit p1 p2 p3 xn xo CL CA cc K kc) (hNK : NightOk xn xo g CL) (_hlo4 : lo ≤ w4.heap.size) (hTS : ∀ k, settleR offK 2 (LLn X Y Z k) = ([⟨s1, 2, 0, 0⟩], 0)) (hab : ab < w19.heap.size) (hAN : ∀ k, k < 4 → ∃ A nc, w19.cell? ⟨ab, k, none⟩ = some (.slice A (LLn X Y Z k).length nc) ∧ Sl w19 w19.heap.size 10 A (LLn X Y Z k).length nc (itCells (LLn X Y Z k))) (hNI19 : ∀ W, Below w19.heap.size w19 W → ∀ k, ∀ x ∈ LLn X Y Z k, NIn W x.n x.A x.c x.S x.sc) (hL19 : Below lo w4 w19) (hlo19 : lo ≤ w19.heap.size) :
    Code.wp Tryz.prog (tpC 31) (bodyPost Tryz.prog Tryz.f4 fun e w' => e = .returned (.bool true) ∧ Below w.heap.size w w') ⟨#[u0, u1, u2, u3, u4, u5, u6, .pointer (some ⟨rb, 0, none⟩), u8, u9, u10, u11, u12, u13, u14, u15, u16, u17, u18, u19, u20, u21, .slice (some ⟨ab, 0, none⟩) 4 4, u23, u24, u25, u26, u27, u28, u29, u30, u31, u32, u33, u34, u35, u36, u37, u38, u39, u40, u41, u42, u43, u44, u45, u46, u47, u48, u49, u50, u51, u52, u53, u54, u55, u56, u57, u58, u59, u60, u61, u62, u63, u64, u65, u66, u67, u68, u69, u70, u71, u72, u73, u74, u75, u76, u77, u78, u79, u80, u81, u82, u83, u84, u85, u86, u87, u88, u89, u90, u91, u92, u93, u94, u95, u96, u97, u98, u99, u100, u101, u102, u103, u104, u105, u106, u107, u108, u109, u110, u111, u112, u113, u114, u115, u116, u117, u118, u119, u120, u121, u122, u123, u124, u125, u126, u127, u128, u129, u130, u131, u132, u133, u134, u135, u136, u137, u138, u139, u140, u141, u142, u143, u144, u145, u146, u147, u148, u149, u150, u151, u152, u153, u154, u155, u156, u157, u158, u159, u160, u161, u162, u163, u164, u165, u166, u167, u168, u169, u170, u171, u172, u173, u174, u175, u176, u177, u178, u179, u180, u181, u182, u183, u184, u185, u186, u187, u188, u189, u190, u191, u192, u193, u194, u195, u196, u197, u198, u199, u200, u201, u202, u203, u204, u205, u206, u207, u208, u209, u210, u211, u212, u213, u214, u215, u216, u217, u218, u219, u220, u221, u222, u223, u224, u225, u226, u227, u228, u229, u230, u231, u232, u233, u234, u235, u236, u237, u238, u239, u240, u241, u242, u243, u244, u245, u246, u247, u248, u249, u250, u251, u252, u253, u254, u255, u256, u257, u258, u259, u260, u261, u262, u263, u264], []⟩ w19 := by
  have HEX := Lib.hid hEX
  have HNK := Lib.hid hNK
  have HES : Hid (s1.size ≤ maxLen) := Lib.hid (by decide)
  have HOA : Hid (okA (tA xn xo g CL) = true) := tA_ok HNK.out
  have HTS := Lib.hid hTS
  have HAN := Lib.hid hAN
  have HNI19 := Lib.hid hNI19
  have HL19 := Lib.hid hL19
  clear hEX hNK hTS hAN hNI19 hL19
  unfold TpEx at HEX
  conv => arg 2; whnf
  try dsimp only
  go_wp2_with fail
  go_loopw [23] (fun i wr => ∃ k : Nat, k ≤ 4 ∧ i = .int .i64 k ∧ Below w19.heap.size w19 wr) (fun i _ => 4 - (Go.RowKit.intOf i).toNat)
  case atStart => exact ⟨0, by omega, rfl, Below.refl _ _⟩
  case round =>
    obtain ⟨k, hk, rfl, hbr⟩ := hrel
    have HBR := Lib.hid hbr
    have hzr := hbr.size
    clear hbr
    have HLR : Hid (Below lo w4 wr) := HL19.out.trans (HBR.out.mono hlo19)
    by_cases hk4 : k < 4
    · obtain ⟨A7, c7, h7, s7⟩ := HAN.out k hk4
      have c8 := (HBR.out.cell (p := ⟨ab, k, none⟩) hab).trans h7
      have HS7 := Lib.hid ((s7.below HBR.out).more hzr)
      clear h7 s7
      have j0 : (0 : Int) ≤ (k : Int) := by omega
      have j1 : (k : Int) < 4 := by omega
      have habr : ab < wr.heap.size := by omega
      obtain ⟨-, -, -, -, -, -, -, r0, r1, -, hkk, -, -, rl, -⟩ := (HEX.out _ HLR.out).1
      have HKK := Lib.hid (hkk.more (Nat.le_trans hlo19 hzr))
      have hrw : rb < wr.heap.size := by omega
      have hbool : decide ((k : Int) < 4) = true := decide_eq_true j1
      clear hkk
      go_wp2_with fail
      have DC : Below wr.heap.size wr wr := Below.refl _ _
      go_region_held3 (fun w' => ∀ b o, b < wr.heap.size → w'.cell? ⟨b, o, none⟩ = wr.cell? ⟨b, o, none⟩) (first | exact kN | exact fun b o h => rfl)
        (first
          | (go_at_call 25; refine (settle_ offK 2 K kc (LLn X Y Z k) A7 c7 [⟨s1, 2, 0, 0⟩] 0 _ (HTS.out k) ((HKK.out.below (by (repeat (first | exact Below.refl _ _ | assumption | refine below_drewN ?_ _ | refine Below.drew ?_ | refine Below.setCell ?_ (by first | omega | (simp; done) | (simp; omega)) _ | refine Below.alloc ?_ (by first | omega | (simp; done) | (simp; omega)) _)))).more (by simp)) ((HEX.out _ HLR.out).2.1.below (by (repeat (first | exact Below.refl _ _ | assumption | refine below_drewN ?_ _ | refine Below.drew ?_ | refine Below.setCell ?_ (by first | omega | (simp; done) | (simp; omega)) _ | refine Below.alloc ?_ (by first | omega | (simp; done) | (simp; omega)) _)))).rdy ((HS7.out.below (by (repeat (first | exact Below.refl _ _ | assumption | refine below_drewN ?_ _ | refine Below.drew ?_ | refine Below.setCell ?_ (by first | omega | (simp; done) | (simp; omega)) _ | refine Below.alloc ?_ (by first | omega | (simp; done) | (simp; omega)) _)))).more (by simp)) (HNI19.out _ (HBR.out.trans ((show Below wr.heap.size wr _ from (by (repeat (first | exact Below.refl _ _ | assumption | refine below_drewN ?_ _ | refine Below.drew ?_ | refine Below.setCell ?_ (by first | omega | (simp; done) | (simp; omega)) _ | refine Below.alloc ?_ (by first | omega | (simp; done) | (simp; omega)) _)))).mono hzr)) k) (Nat.le_trans LLn_len (by omega))).mono ?_; rintro e wn ⟨A8, c8', rfl, hrow, hbn⟩; have HRW := Lib.hid hrow; have HBN : Hid (Below wr.heap.size wr wn) := (show Below wr.heap.size wr _ from (by (repeat (first | exact Below.refl _ _ | assumption | refine below_drewN ?_ _ | refine Below.drew ?_ | refine Below.setCell ?_ (by first | omega | (simp; done) | (simp; omega)) _ | refine Below.alloc ?_ (by first | omega | (simp; done) | (simp; omega)) _)))).trans (hbn.mono (by first | omega | (simp; done) | (simp; omega))); have kN := (fun b o (h : b < wr.heap.size) => HBN.out.cell (p := ⟨b, o, none⟩) h); clear hrow hbn))
      obtain ⟨tb, tof, rfl, htb, z0, z1, z2, z3⟩ := (Sl.of_own HRW.out).std_at (k := 0) (by simp)
      simp only [List.getElem_cons_zero, Nat.zero_mul, Nat.add_zero] at z0 z1 z2 z3
      rw [show s1 = ⟨#[115, 49]⟩ from rfl] at z0
      clear kN c8 r0 r1
      go_wp2_with fail
      go_roundw
      case rel => exact ⟨k + 1, by omega, by go_num, HBR.out.trans (HBN.out.mono hzr)⟩
      case measure => simp [Go.RowKit.intOf]; omega
    · obtain rfl : k = 4 := by omega
      go_wp2_with fail
      refine (posted_ _ ((HEX.out _ HLR.out).2.1.below (by repeat (first | exact Below.refl _ _ | assumption | refine below_drewN ?_ _ | refine Below.drew ?_ | refine Below.setCell ?_ (by first | omega | (simp; done) | (simp; omega)) _ | refine Below.alloc ?_ (by first | omega | (simp; done) | (simp; omega)) _))).rdy).mono ?_
      rintro e wE ⟨rfl, hb⟩
      have HBE : Hid (Below w.heap.size w wE) := ((HEX.out _ HLR.out).2.2).trans (((show Below wr.heap.size wr _ from (by repeat (first | exact Below.refl _ _ | assumption | refine below_drewN ?_ _ | refine Below.drew ?_ | refine Below.setCell ?_ (by first | omega | (simp; done) | (simp; omega)) _ | refine Below.alloc ?_ (by first | omega | (simp; done) | (simp; omega)) _))).trans (hb.mono (by first | omega | (simp; done) | (simp; omega)))).mono (HEX.out _ HLR.out).2.2.size)
      clear hb
      go_wp2_with fail
      go_ret
      exact ⟨rfl, HBE.out⟩

end Go.Proofs.YtmpbhngjkbidcaaGreatDoor

/-
  TopPublished, a piece of its walk: Force and Post of what comes too late; the lists of notices
-/
namespace Go.Proofs.YtmpbhngjkbidcaaGreatDoor
open Go.RowKit Al

set_option maxRecDepth 100000 in
set_option maxHeartbeats 16000000 in
theorem ltop_27 {w w4 : World} {lo qb qo rb cc kc : Nat} {g limit p1 p2 p3 xn xo : Int} {CL : List Int} {CA K : Option Addr} {bb : Nat} {w5 w6 w16 : World} {n7 n12 n13 n14 n15 pA pN pW pM pK c1 c3 sc6 sc14 sc16 : Nat} {A1 A3 S6 S14 S16 : Option Addr} {T2 : Nat → Prop} {u0 u1 u2 u3 u4 u5 u6 u8 u9 u11 u14 u15 u16 u17 u18 u20 u22 u23 u24 u25 u26 u27 u28 u29 u30 u31 u32 u33 u34 u35 u36 u37 u38 u39 u40 u41 u42 u43 u44 u45 u46 u47 u48 u49 u50 u51 u52 u53 u54 u55 u56 u57 u58 u59 u60 u61 u62 u63 u64 u65 u66 u67 u68 u69 u70 u71 u72 u73 u74 u75 u76 u77 u78 u79 u80 u81 u82 u83 u84 u85 u86 u87 u88 u89 u90 u91 u92 u93 u94 u95 u96 u97 u98 u99 u100 u101 u102 u103 u104 u105 u106 u107 u108 u109 u110 u111 u112 u113 u114 u115 u116 u117 u118 u119 u120 u121 u122 u123 u124 u125 u126 u127 u128 u129 u130 u131 u132 u133 u134 u135 u136 u137 u138 u139 u140 u141 u142 u143 u144 u145 u146 u147 u148 u149 u150 u151 u152 u153 u154 u155 u156 u157 u158 u159 u160 u161 u162 u163 u164 u165 u166 u167 u168 u169 u170 u171 u172 u173 u174 u175 u176 u177 u178 u179 u180 u181 u182 u183 u184 u185 u186 u187 u188 u189 u190 u191 u192 u193 u194 u195 u196 u197 u198 u199 u200 u201 u202 u203 u204 u205 u206 u207 u208 u209 u210 u211 u212 u213 u214 u215 u216 u217 u218 u219 u220 u221 u222 u223 u224 u225 u226 u227 u228 u229 u230 u231 u232 u233 u234 u235 u236 u237 u238 u239 u240 u241 u242 u243 u244 u245 u246 u247 u248 u249 u250 u251 u252 u253 u254 u255 u256 u257 u258 u259 u260 u261 u262 u263 u264 : Value} (hEX : TpEx w w4 lo qb qo rb g limit p1 p2 p3 xn xo CL CA cc K kc) (hNK : NightOk xn xo g CL) (hlo4 : lo ≤ w4.heap.size) (hz5 : w4.heap.size ≤ w5.heap.size) (hz6 : w5.heap.size ≤ w6.heap.size) (hz7 : w6.heap.size ≤ n7) (hz12 : n7 ≤ n12) (hz13 : n12 ≤ n13) (hz14 : n13 ≤ n14) (_hz15 : n14 ≤ n15) (_hz16 : n15 ≤ w16.heap.size) (hlo16 : lo ≤ w16.heap.size) (hT2 : ∀ i, T2 i → lo ≤ i ∧ (i < w4.heap.size ∨ (w6.heap.size ≤ i ∧ i < n7) ∨ n14 ≤ i) ∧ i < n15) (hBD16 : Bd w16 T2 bb offK 2 (([] ++ [rO (tA xn xo g CL)]) ++ [rO (tW (tA xn xo g CL))])) (hNA16 : Nb w16 w4.heap.size w5.heap.size pA (tA xn xo g CL) A1 c1) (hNN16 : Nn w16 w5.heap.size w6.heap.size pN (rO (tA xn xo g CL)) A1 c1 S6 sc6) (hNM16 : Nn w16 n13 n14 pM (rO (tW (tA xn xo g CL))) A3 c3 S14 sc14) (hNW16 : Nb w16 n12 n13 pW (tW (tA xn xo g CL)) A3 c3) (hNK16 : Nn w16 n15 w16.heap.size pK (rO (tL xn xo g CL)) A1 c1 S16 sc16) (hL16 : Below lo w4 w16) :
    Code.wp Tryz.prog (tpC 27) (bodyPost Tryz.prog Tryz.f4 fun e w' => e = .returned (.bool true) ∧ Below w.heap.size w w') ⟨#[u0, u1, u2, u3, u4, u5, u6, .pointer (some ⟨rb, 0, none⟩), u8, u9, .pointer (some ⟨bb, 0, none⟩), u11, .pointer (some ⟨pN, 0, none⟩), .bool true, u14, u15, u16, u17, u18, .pointer (some ⟨pM, 0, none⟩), u20, .pointer (some ⟨pK, 0, none⟩), u22, u23, u24, u25, u26, u27, u28, u29, u30, u31, u32, u33, u34, u35, u36, u37, u38, u39, u40, u41, u42, u43, u44, u45, u46, u47, u48, u49, u50, u51, u52, u53, u54, u55, u56, u57, u58, u59, u60, u61, u62, u63, u64, u65, u66, u67, u68, u69, u70, u71, u72, u73, u74, u75, u76, u77, u78, u79, u80, u81, u82, u83, u84, u85, u86, u87, u88, u89, u90, u91, u92, u93, u94, u95, u96, u97, u98, u99, u100, u101, u102, u103, u104, u105, u106, u107, u108, u109, u110, u111, u112, u113, u114, u115, u116, u117, u118, u119, u120, u121, u122, u123, u124, u125, u126, u127, u128, u129, u130, u131, u132, u133, u134, u135, u136, u137, u138, u139, u140, u141, u142, u143, u144, u145, u146, u147, u148, u149, u150, u151, u152, u153, u154, u155, u156, u157, u158, u159, u160, u161, u162, u163, u164, u165, u166, u167, u168, u169, u170, u171, u172, u173, u174, u175, u176, u177, u178, u179, u180, u181, u182, u183, u184, u185, u186, u187, u188, u189, u190, u191, u192, u193, u194, u195, u196, u197, u198, u199, u200, u201, u202, u203, u204, u205, u206, u207, u208, u209, u210, u211, u212, u213, u214, u215, u216, u217, u218, u219, u220, u221, u222, u223, u224, u225, u226, u227, u228, u229, u230, u231, u232, u233, u234, u235, u236, u237, u238, u239, u240, u241, u242, u243, u244, u245, u246, u247, u248, u249, u250, u251, u252, u253, u254, u255, u256, u257, u258, u259, u260, u261, u262, u263, u264], []⟩ w16 := by
  have HEX := Lib.hid hEX
  have HNK := Lib.hid hNK
  have HES : Hid (s1.size ≤ maxLen) := Lib.hid (by decide)
  have HOA : Hid (okA (tA xn xo g CL) = true) := tA_ok HNK.out
  have HT2 := Lib.hid hT2
  have HBD16 := Lib.hid hBD16
  have HNA16 := Lib.hid hNA16
  have HNN16 := Lib.hid hNN16
  have HNM16 := Lib.hid hNM16
  have HNW16 := Lib.hid hNW16
  have HNK16 := Lib.hid hNK16
  have HL16 := Lib.hid hL16
  clear hEX hNK hT2 hBD16 hNA16 hNN16 hNM16 hNW16 hNK16 hL16
  unfold TpEx at HEX
  conv => arg 2; whnf
  try dsimp only
  have HOL : Hid (okA (tL xn xo g CL) = true) := tL_ok HNK.out
  go_wp2_with fail
  refine (Force_ T2 bb offK 2 (([] ++ [rO (tA xn xo g CL)]) ++ [rO (tW (tA xn xo g CL))]) s1 _ Al.zero 107 (tForce xn xo g CL) HES.out (HBD16.out.below (by repeat (first | exact Below.refl _ _ | assumption | refine below_drewN ?_ _ | refine Below.drew ?_ | refine Below.setCell ?_ (by first | omega | (simp; done) | (simp; omega)) _ | refine Below.alloc ?_ (by first | omega | (simp; done) | (simp; omega)) _)))).mono ?_
  rintro e w17 ⟨A5, c5, rfl, -, hb⟩
  have HB1617 : Hid (Below w16.heap.size w16 w17) := (show Below w16.heap.size w16 _ from (by repeat (first | exact Below.refl _ _ | assumption | refine below_drewN ?_ _ | refine Below.drew ?_ | refine Below.setCell ?_ (by first | omega | (simp; done) | (simp; omega)) _ | refine Below.alloc ?_ (by first | omega | (simp; done) | (simp; omega)) _))).trans (hb.mono (by first | omega | (simp; done) | (simp; omega)))
  have hz17 := HB1617.out.size
  have HNK17 := Lib.hid (HNK16.out.below HB1617.out)
  have HNA17 := Lib.hid (HNA16.out.below HB1617.out)
  have HNN17 := Lib.hid (HNN16.out.below HB1617.out)
  have HNM17 := Lib.hid (HNM16.out.below HB1617.out)
  have HNW17 := Lib.hid (HNW16.out.below HB1617.out)
  have HBD17 := Lib.hid (HBD16.out.below HB1617.out)
  have HL17 : Hid (Below lo w4 w17) := HL16.out.trans (HB1617.out.mono hlo16)
  clear hb HNA16 HNN16 HNM16 HNW16 HNK16 HBD16 HL16 HB1617
  obtain ⟨k0, k1, k2, k3, k4, k5, k6, k7, k8, k9⟩ := HNK17.out.cells
  simp only [rO, tL] at k0 k1 k2 k3 k4 k5 k6 k7 k8 k9
  have hpk := HNK17.out.p3
  go_wp2_with fail
  refine (oPost_ T2 bb (([] ++ [rO (tA xn xo g CL)]) ++ [rO (tW (tA xn xo g CL))]) (rO (tL xn xo g CL)) A1 c1 S16 sc16 107 _ (HBD17.out.below (by repeat (first | exact Below.refl _ _ | assumption | refine below_drewN ?_ _ | refine Below.drew ?_ | refine Below.setCell ?_ (by first | omega | (simp; done) | (simp; omega)) _ | refine Below.alloc ?_ (by first | omega | (simp; done) | (simp; omega)) _))) ((HNK17.out.nin (show AIn w17 (tL xn xo g CL) A1 c1 from ⟨HES.out, HNA17.out.ain.sl⟩)).below (by repeat (first | exact Below.refl _ _ | assumption | refine below_drewN ?_ _ | refine Below.drew ?_ | refine Below.setCell ?_ (by first | omega | (simp; done) | (simp; omega)) _ | refine Below.alloc ?_ (by first | omega | (simp; done) | (simp; omega)) _))) ((HEX.out _ HL17.out).2.1.below (by repeat (first | exact Below.refl _ _ | assumption | refine below_drewN ?_ _ | refine Below.drew ?_ | refine Below.setCell ?_ (by first | omega | (simp; done) | (simp; omega)) _ | refine Below.alloc ?_ (by first | omega | (simp; done) | (simp; omega)) _))).rdy (((show SlR w17 _ 1 A1 (tL xn xo g CL).cells.length c1 (ints (tL xn xo g CL).cells) from HNA17.out.al).keep (F := fun _ => False) (Kp.of_below (by repeat (first | exact Below.refl _ _ | assumption | refine below_drewN ?_ _ | refine Below.drew ?_ | refine Below.setCell ?_ (by first | omega | (simp; done) | (simp; omega)) _ | refine Below.alloc ?_ (by first | omega | (simp; done) | (simp; omega)) _))) (fun _ _ f => f)).mono (fun i hi ht => by have := (HT2.out i ht).2; have := hi.1; have := hi.2; omega)) (tPost3 HOL.out)).mono ?_
  rintro e w18 ⟨rfl, -, hkp⟩
  have HKP : Hid (Kp T2 w17 w18) := (Kp.of_below (F := T2) (show Below w17.heap.size w17 _ from (by repeat (first | exact Below.refl _ _ | assumption | refine below_drewN ?_ _ | refine Below.drew ?_ | refine Below.setCell ?_ (by first | omega | (simp; done) | (simp; omega)) _ | refine Below.alloc ?_ (by first | omega | (simp; done) | (simp; omega)) _)))).trans hkp (fun i _ h => h)
  have hz18 := HKP.out.size
  have HNK18 := Lib.hid (HNK17.out.keep HKP.out (fun i h1 h2 ht => by have := (HT2.out i ht).2; omega))
  have HNA18 := Lib.hid (HNA17.out.keep HKP.out (fun i h1 h2 ht => by have := (HT2.out i ht).2; omega))
  have HNN18 := Lib.hid (HNN17.out.keep HKP.out (fun i h1 h2 ht => by have := (HT2.out i ht).2; omega))
  have HNM18 := Lib.hid (HNM17.out.keep HKP.out (fun i h1 h2 ht => by have := (HT2.out i ht).2; omega))
  have HNW18 := Lib.hid (HNW17.out.keep HKP.out (fun i h1 h2 ht => by have := (HT2.out i ht).2; omega))
  have hlo18 : lo ≤ w18.heap.size := by omega
  have HL18 : Hid (Below lo w4 w18) := HL17.out.trans (HKP.out.below (by omega) (fun i hi => (HT2.out i hi).1))
  clear hkp k0 k1 k2 k3 k4 k5 k6 k7 k8 k9 HNA17 HNN17 HNM17 HNW17 HNK17 HBD17 HL17 HKP HT2
  go_upto_region 30 with fail
  obtain ⟨X, hX⟩ : ∃ X : It, ⟨rO (tA xn xo g CL), A1, c1, S6, sc6⟩ = X := ⟨_, rfl⟩
  obtain ⟨Y, hY⟩ : ∃ Y : It, ⟨rO (tW (tA xn xo g CL)), A3, c3, S14, sc14⟩ = Y := ⟨_, rfl⟩
  obtain ⟨Z, hZ⟩ : ∃ Z : It, ⟨rO (tL xn xo g CL), A1, c1, S16, sc16⟩ = Z := ⟨_, rfl⟩
  have HNI : Hid (NIn w18 X.n X.A X.c X.S X.sc ∧ NIn w18 Y.n Y.A Y.c Y.S Y.sc ∧ NIn w18 Z.n Z.A Z.c Z.S Z.sc) := by
    rw [← hX, ← hY, ← hZ]
    exact ⟨HNN18.out.nin HNA18.out.ain, HNM18.out.nin HNW18.out.ain, HNK18.out.nin ⟨HES.out, HNA18.out.ain.sl⟩⟩
  have HTS : Hid (∀ k, settleR offK 2 (LLn X Y Z k) = ([⟨s1, 2, 0, 0⟩], 0)) := fun k => by
    refine tSettle _ (Nat.le_trans LLn_len (by omega)) (fun x hx => ?_) (fun x hx => ?_) ⟨Y, LLn_y, by rw [← hY]; rfl⟩
    · rcases LLn_mem hx with rfl | rfl | rfl
      · rw [← hX]; exact rO_ok HOA.out
      · rw [← hY]; exact rO_ok (tW_ok HOA.out)
      · rw [← hZ]; exact rO_ok HOL.out
    · rcases LLn_mem hx with rfl | rfl | rfl
      · rw [← hX]; rfl
      · rw [← hY]; rfl
      · rw [← hZ]; rfl
  go_cut [22] from 26 (fun s22 wx => AllN w18 (LLn X Y Z) s22 wx)
  case first =>
    obtain ⟨n0, n1, n2, n3, n4, n5, n6, n7, n8, n9⟩ := HNN18.out.cells
    obtain ⟨m0, m1, m2, m3, m4, m5, m6, m7, m8, m9⟩ := HNM18.out.cells
    obtain ⟨k0, k1, k2, k3, k4, k5, k6, k7, k8, k9⟩ := HNK18.out.cells
    simp only [rO, tA] at n0 n1 n2 n3 n4 n5 n6 n7 n8 n9
    simp only [rO, tW, tA] at m0 m1 m2 m3 m4 m5 m6 m7 m8 m9
    simp only [rO, tL] at k0 k1 k2 k3 k4 k5 k6 k7 k8 k9
    have hpn := HNN18.out.p3
    have hpm := HNM18.out.p3
    have hpk := HNK18.out.p3
    have q1 : pN < w18.heap.size + 1 := by omega
    have q2 : pM < w18.heap.size + 1 := by omega
    have q3 : pK < w18.heap.size + 1 := by omega
    have q4 : pM < w18.heap.size + 1 + 1 := by omega
    have q5 : pK < w18.heap.size + 1 + 1 := by omega
    have q6 : pM < w18.heap.size + 1 + 1 + 1 := by omega
    go_wp2_with fail
    go_meet
    rw [← hX, ← hY, ← hZ]
    exact all_lit w18 _ _ _ _ _ rfl rfl rfl rfl rfl rfl rfl rfl
  case rest =>
    obtain ⟨w19, ab, hw19, rfl, hab, hcl, hb⟩ := hcut
    subst hw19
    have HAN := Lib.hid hcl
    have hz19 := hb.size
    have HL19 : Hid (Below lo w4 w19) := HL18.out.trans (hb.mono hlo18)
    have hlo19 : lo ≤ w19.heap.size := by omega
    have HNI19 : Hid (∀ W, Below w19.heap.size w19 W → ∀ k, ∀ x ∈ LLn X Y Z k, NIn W x.n x.A x.c x.S x.sc) := fun W hW k x hx => by
      obtain ⟨a1, a2, a3⟩ := HNI.out
      rcases LLn_mem hx with rfl | rfl | rfl
      · exact (a1.below hb).below hW
      · exact (a2.below hb).below hW
      · exact (a3.below hb).below hW
    go_step
    exact ltop_31 HEX.out HNK.out hlo4 HTS.out hab HAN.out HNI19.out HL19.out hlo19

end Go.Proofs.YtmpbhngjkbidcaaGreatDoor
