/-
  The walk of AlertKnown.
-/
import Derived.Test.YtohfofecbdfkgaaGreatDoorV01Kc9
import Derived.Test.YtohfofecbdfkgaaGreatDoorU27
import Derived.Test.YtohfofecbdfkgaaGreatDoorU20
import Derived.Test.YtohfofecbdfkgaaGreatDoorU15
import Derived.Test.YtohfofecbdfkgaaGreatDoorU31
namespace Go.Proofs.YtohfofecbdfkgaaGreatDoor
open Go.RowKit Al

theorem mk3_ (w : World) : Calls Tryz.prog 14 #[.int .i64 5, .int .i64 7, .int .i64 5] w fun e w' => e = .returned (.tuple #[.agg #[.int .i64 35, .int .i64 5], .int .i64 5, .int .i64 0]) ∧ Below w.heap.size w w' := by
  have := makeKey_yes 5 7 5 key3_ok w
  rw [sec3] at this
  exact this
theorem mk4_ (w : World) : Calls Tryz.prog 14 #[.int .i64 3, .int .i64 5, .int .i64 3] w fun e w' => e = .returned (.tuple #[.agg #[.int .i64 15, .int .i64 3], .int .i64 3, .int .i64 0]) ∧ Below w.heap.size w w' := by
  have := makeKey_yes 3 5 3 key4_ok w
  rw [sec4] at this
  exact this
theorem mk5_ (w : World) : Calls Tryz.prog 14 #[.int .i64 3, .int .i64 3, .int .i64 5] w fun e w' => e = .returned (.tuple #[.agg #[.int .i64 0, .int .i64 0], .int .i64 0, .int .i64 100]) ∧ Below w.heap.size w w' := makeKey_no 3 3 5 key5_no w
theorem mk6_ (w : World) : Calls Tryz.prog 14 #[.int .i64 4, .int .i64 7, .int .i64 5] w fun e w' => e = .returned (.tuple #[.agg #[.int .i64 0, .int .i64 0], .int .i64 0, .int .i64 100]) ∧ Below w.heap.size w w' := makeKey_no 4 7 5 key6_no w
theorem sgA_ (a : Alr) (sg : List (Int × Int)) (m : Nat) (hm : m ≤ 3) (hok : okA a = true) (hs : sgN ringK ringS (digA a) m = sg) (K : Option Addr) (kc : Nat) (Z : Option Addr) (zc : Nat) (A : Option Addr) (c : Nat) (w : World) (hk : Sl w w.heap.size 2 K 3 kc (keyCells ringK)) (hz : Sl w w.heap.size 1 Z 3 zc (ints ringS)) (ha : AIn w a A c) (hr : Rdy w) :
    Calls Tryz.prog 19 #[.slice K 3 kc, .slice Z 3 zc, a.val A c, .int .i64 m] w (SgT a A c sg w) :=
  hs ▸ lawsigned_ ringK K kc ringS Z zc a A c m w hk hz ha hr hok ring_plaus ring_sec hm (by decide) (by decide)

/-- The blocks of the board: those from lo to hi, and the ones that came later. -/
def SK (lo hi n0 : Nat) (i : Nat) : Prop := (lo ≤ i ∧ i < hi) ∨ n0 ≤ i
/-- A notice in a box, in blocks from hi to n0. -/
structure Bx (w : World) (hi n0 p : Nat) (n : Ntc) (A : Option Addr) (c : Nat) (Z : Option Addr) (zc : Nat) : Prop where
  p1 : hi ≤ p
  p2 : p < n0
  p3 : p < w.heap.size
  cs : ∀ j u, (ntL n.a A c Z n.sg.length zc)[j]? = some u → w.cell? ⟨p, j, none⟩ = some u
  ev : n.a.ev.size ≤ maxLen
  al : SlR w (fun i => hi ≤ i ∧ i < n0) 1 A n.a.cells.length c (ints n.a.cells)
  sl : SlR w (fun i => hi ≤ i ∧ i < n0) 2 Z n.sg.length zc (keyCells n.sg)
theorem Bx.nin {w : World} {hi n0 p : Nat} {n : Ntc} {A : Option Addr} {c : Nat} {Z : Option Addr} {zc : Nat} (h : Bx w hi n0 p n A c Z zc) : NIn w n A c Z zc := ⟨⟨h.ev, h.al.sl⟩, h.sl.sl⟩
theorem SK.no {lo hi n0 i : Nat} (h : hi ≤ i ∧ i < n0) : ¬ SK lo hi n0 i := by unfold SK; omega
theorem Bx.keep {w w' : World} {lo hi n0 p : Nat} {n : Ntc} {A : Option Addr} {c : Nat} {Z : Option Addr} {zc : Nat} (h : Bx w hi n0 p n A c Z zc) (k : Kp (SK lo hi n0) w w') : Bx w' hi n0 p n A c Z zc :=
  ⟨h.p1, h.p2, Nat.lt_of_lt_of_le h.p3 k.size, fun j u hu => (k.cell (p := ⟨p, j, none⟩) h.p3 (SK.no ⟨h.p1, h.p2⟩)).trans (h.cs j u hu), h.ev, h.al.keep k (fun _ hi => SK.no hi), h.sl.keep k (fun _ hi => SK.no hi)⟩
theorem Bx.below {w w' : World} {hi n0 p : Nat} {n : Ntc} {A : Option Addr} {c : Nat} {Z : Option Addr} {zc : Nat} (h : Bx w hi n0 p n A c Z zc) (hb : Below w.heap.size w w') : Bx w' hi n0 p n A c Z zc :=
  ⟨h.p1, h.p2, Nat.lt_of_lt_of_le h.p3 hb.size, fun j u hu => (hb.cell (p := ⟨p, j, none⟩) h.p3).trans (h.cs j u hu), h.ev, h.al.keep (Kp.of_below (F := fun _ => False) hb) (fun _ _ f => f), h.sl.keep (Kp.of_below (F := fun _ => False) hb) (fun _ _ f => f)⟩
theorem Bx.cells {w : World} {hi n0 p : Nat} {n : Ntc} {A : Option Addr} {c : Nat} {Z : Option Addr} {zc : Nat} (h : Bx w hi n0 p n A c Z zc) :
    w.cell? ⟨p, 0, none⟩ = some (.string n.a.ev) ∧ w.cell? ⟨p, 1, none⟩ = some (.int .i64 n.a.ver) ∧ w.cell? ⟨p, 2, none⟩ = some (.int .i64 n.a.tm) ∧ w.cell? ⟨p, 3, none⟩ = some (.int .i64 n.a.n) ∧ w.cell? ⟨p, 4, none⟩ = some (.int .i64 n.a.of) ∧ w.cell? ⟨p, 5, none⟩ = some (.int .i64 n.a.grid) ∧ w.cell? ⟨p, 6, none⟩ = some (.slice A n.a.cells.length c) ∧ w.cell? ⟨p, 7, none⟩ = some (.bool n.a.wd) ∧ w.cell? ⟨p, 8, none⟩ = some (.int .i64 n.a.before) ∧ w.cell? ⟨p, 9, none⟩ = some (.slice Z n.sg.length zc) :=
  ⟨h.cs 0 _ rfl, h.cs 1 _ rfl, h.cs 2 _ rfl, h.cs 3 _ rfl, h.cs 4 _ rfl, h.cs 5 _ rfl, h.cs 6 _ rfl, h.cs 7 _ rfl, h.cs 8 _ rfl, h.cs 9 _ rfl⟩
theorem postK (lo hi n0 b p : Nat) (ks : List (Int × Int)) (q : Int) (ns : List Ntc) (n : Ntc) (A : Option Addr) (c : Nat) (Z : Option Addr) (zc : Nat) (v : Int) (ns' : List Ntc) (w : World) (hv : postE ks q ns n = v) (hn' : postN ks q ns n = ns') (hw : n0 ≤ w.heap.size)
    (h : Bd w (SK lo hi n0) b ks q ns) (hx : Bx w hi n0 p n A c Z zc) (ht : Rdy w) :
    Calls Tryz.prog 20 #[.pointer (some ⟨b, 0, none⟩), n.val A c Z zc] w fun e w' => e = .returned (.int .i64 v) ∧ Bd w' (SK lo hi n0) b ks q ns' ∧ Kp (SK lo hi n0) w w' := by
  refine (Post_ (SK lo hi n0) b ks q ns n A c Z zc w h hx.nin ht (hx.al.mono (fun i hi => SK.no hi))).mono fun e w' hp => ?_
  obtain ⟨h1, h2, h3⟩ := hp
  rw [hv] at h1
  rw [hn'] at h2
  refine ⟨h1, h2.mono (fun i hi => ?_), h3⟩
  rcases hi with hi | hi
  · exact hi
  · exact .inr (Nat.le_trans hw hi)
theorem SlR.of_lit {w : World} {R : Nat → Prop} {sz n c : Nat} {A : Option Addr} {xs : List Value} (h : Sl w w.heap.size sz A n c xs) (hR : 0 < n → ∀ a, A = some a → R a.block) : SlR w R sz A n c xs := ⟨h, hR⟩
/-- What the first half of the examples leaves: a roll, a board, and four notices in boxes. -/
structure Half (w0 w : World) (lo hi n0 b r : Nat) (K : Option Addr) (kc pf pm pn pk : Nat) (f m n k : It) (ns : List Ntc) : Prop where
  lo_ : w0.heap.size ≤ lo
  lh : lo ≤ hi
  hn : hi ≤ n0
  n0_ : n0 ≤ w.heap.size
  rlt : r < lo
  bd : Bd w (SK lo hi n0) b ringK 2 ns
  r0 : w.cell? ⟨r, 0, none⟩ = some (.slice K 3 kc)
  r1 : w.cell? ⟨r, 1, none⟩ = some (.int .i64 2)
  kr : SlR w (fun i => i < lo) 2 K 3 kc (keyCells ringK)
  fb : Bx w hi n0 pf kF f.A f.c f.S f.sc
  mb : Bx w hi n0 pm kM m.A m.c m.S m.sc
  nb : Bx w hi n0 pn kN n.A n.c n.S n.sc
  kb : Bx w hi n0 pk kK k.A k.c k.S k.sc
  below : Below w0.heap.size w0 w
theorem Half.post {w0 w w' : World} {lo hi n0 b r : Nat} {K : Option Addr} {kc pf pm pn pk : Nat} {f m n k : It} {ns ns' : List Ntc} (h : Half w0 w lo hi n0 b r K kc pf pm pn pk f m n k ns) (hB : Bd w' (SK lo hi n0) b ringK 2 ns') (hk : Kp (SK lo hi n0) w w') : Half w0 w' lo hi n0 b r K kc pf pm pn pk f m n k ns' := by
  have hr : ¬ SK lo hi n0 r := by have := h.rlt; have := h.lh; have := h.hn; unfold SK; omega
  have hrs : r < w.heap.size := by have := h.rlt; have := h.lh; have := h.hn; have := h.n0_; omega
  exact ⟨h.lo_, h.lh, h.hn, Nat.le_trans h.n0_ hk.size, h.rlt, hB, (hk.cell (p := ⟨r, 0, none⟩) hrs hr).trans h.r0, (hk.cell (p := ⟨r, 1, none⟩) hrs hr).trans h.r1,
    h.kr.keep hk (fun i hi => by have := h.lh; have := h.hn; unfold SK; omega), h.fb.keep hk, h.mb.keep hk, h.nb.keep hk, h.kb.keep hk,
    h.below.trans (hk.below h.below.size (fun i hi => by have := h.lo_; have := h.lh; have := h.hn; unfold SK at hi; omega))⟩
theorem Half.after {w0 w w' : World} {lo hi n0 b r : Nat} {K : Option Addr} {kc pf pm pn pk : Nat} {f m n k : It} {ns : List Ntc} (h : Half w0 w lo hi n0 b r K kc pf pm pn pk f m n k ns) (hb : Below w.heap.size w w') : Half w0 w' lo hi n0 b r K kc pf pm pn pk f m n k ns :=
  h.post (h.bd.below hb) (Kp.of_below hb)
def KnCut (w : World) (s15 s16 s19 s21 s23 s25 : Value) (wx : World) : Prop :=
  ∃ lo hi n0 b r K kc pf pm pn pk f m n k, s15 = .pointer (some ⟨r, 0, none⟩) ∧ s16 = .pointer (some ⟨b, 0, none⟩) ∧ s19 = .pointer (some ⟨pn, 0, none⟩) ∧ s21 = .pointer (some ⟨pm, 0, none⟩) ∧ s23 = .pointer (some ⟨pk, 0, none⟩) ∧ s25 = .pointer (some ⟨pf, 0, none⟩) ∧ Half w wx lo hi n0 b r K kc pf pm pn pk f m n k []
theorem stC_len (l : List Std) : (stCells l).length = l.length * 4 := by
  induction l with
  | nil => rfl
  | cons x l ih =>
    simp only [stCells, List.flatMap_cons, List.length_append] at ih ⊢
    rw [ih, Std.len, List.length_cons]
    omega
theorem itBuild {w w' : World} {X : List It} {n : Nat} {ty : TypeId} {ob : Obj} (ho : ob = .cells (itCells X).toArray ty) (hn : X.length = n) (hm : n ≤ maxLen) (hb : Below (w.heap.size + 1) (w.alloc ob) w') : Sl w' (w.heap.size + 1) 10 (some ⟨w.heap.size, 0, none⟩) n n (itCells X) := by
  subst ho hn
  refine Sl.below ⟨itCells_len _, Nat.le_refl _, hm, fun e => (by cases e), fun _ => ⟨_, _, rfl, Nat.lt_succ_self _, fun j u hu => ?_⟩⟩ hb
  simp [go_sem, hu]
theorem Bx.up {w : World} {hi n0 n1 p : Nat} {n : Ntc} {A : Option Addr} {c : Nat} {Z : Option Addr} {zc : Nat} (h : Bx w hi n0 p n A c Z zc) (hn : n0 ≤ n1) : Bx w hi n1 p n A c Z zc :=
  ⟨h.p1, Nat.lt_of_lt_of_le h.p2 hn, h.p3, h.cs, h.ev, h.al.mono (fun _ hi => ⟨hi.1, Nat.lt_of_lt_of_le hi.2 hn⟩), h.sl.mono (fun _ hi => ⟨hi.1, Nat.lt_of_lt_of_le hi.2 hn⟩)⟩
theorem stBuild {w w' : World} {X : List Std} {n g B : Nat} {ty : TypeId} {ob : Obj} (ho : ob = .cells (stCells X).toArray ty) (hn : X.length = n) (hm : n ≤ maxLen) (hg : g = w.heap.size) (hB : B = g + 1) (hb : Below (w.heap.size + 1) (w.alloc ob) w') : Sl w' B 4 (some ⟨g, 0, none⟩) n n (stCells X) := by
  subst ho hn hg hB
  refine Sl.below ⟨stC_len _, Nat.le_refl _, hm, fun e => (by cases e), fun _ => ⟨_, _, rfl, Nat.lt_succ_self _, fun j u hu => ?_⟩⟩ hb
  simp [go_sem, hu]

/-- An alert in a box. -/
structure Ab (w : World) (p : Nat) (a : Alr) (A : Option Addr) (c : Nat) : Prop where
  lt : p < w.heap.size
  cs : ∀ j u, (a.lst A c)[j]? = some u → w.cell? ⟨p, j, none⟩ = some u
theorem Ab.below {w w' : World} {p : Nat} {a : Alr} {A : Option Addr} {c : Nat} (h : Ab w p a A c) (hb : Below w.heap.size w w') : Ab w' p a A c :=
  ⟨Nat.lt_of_lt_of_le h.lt hb.size, fun j u hu => (hb.cell (p := ⟨p, j, none⟩) h.lt).trans (h.cs j u hu)⟩
theorem Ab.cells {w : World} {p : Nat} {a : Alr} {A : Option Addr} {c : Nat} (h : Ab w p a A c) :
    w.cell? ⟨p, 0, none⟩ = some (.string a.ev) ∧ w.cell? ⟨p, 1, none⟩ = some (.int .i64 a.ver) ∧ w.cell? ⟨p, 2, none⟩ = some (.int .i64 a.tm) ∧ w.cell? ⟨p, 3, none⟩ = some (.int .i64 a.n) ∧ w.cell? ⟨p, 4, none⟩ = some (.int .i64 a.of) ∧ w.cell? ⟨p, 5, none⟩ = some (.int .i64 a.grid) ∧ w.cell? ⟨p, 6, none⟩ = some (.slice A a.cells.length c) ∧ w.cell? ⟨p, 7, none⟩ = some (.bool a.wd) ∧ w.cell? ⟨p, 8, none⟩ = some (.int .i64 a.before) :=
  ⟨h.cs 0 _ rfl, h.cs 1 _ rfl, h.cs 2 _ rfl, h.cs 3 _ rfl, h.cs 4 _ rfl, h.cs 5 _ rfl, h.cs 6 _ rfl, h.cs 7 _ rfl, h.cs 8 _ rfl⟩
theorem nine {P : Nat → Value → Prop} {a b c d e f g h i : Value} (h0 : P 0 a) (h1 : P 1 b) (h2 : P 2 c) (h3 : P 3 d) (h4 : P 4 e) (h5 : P 5 f) (h6 : P 6 g) (h7 : P 7 h) (h8 : P 8 i) : ∀ j u, ([a, b, c, d, e, f, g, h, i] : List Value)[j]? = some u → P j u := by
  intro j u hu
  rcases j with _ | _ | _ | _ | _ | _ | _ | _ | _ | j
  all_goals simp at hu
  all_goals subst hu
  all_goals assumption
theorem ten {P : Nat → Value → Prop} {a b c d e f g h i k : Value} (h0 : P 0 a) (h1 : P 1 b) (h2 : P 2 c) (h3 : P 3 d) (h4 : P 4 e) (h5 : P 5 f) (h6 : P 6 g) (h7 : P 7 h) (h8 : P 8 i) (h9 : P 9 k) : ∀ j u, ([a, b, c, d, e, f, g, h, i, k] : List Value)[j]? = some u → P j u := by
  intro j u hu
  rcases j with _ | _ | _ | _ | _ | _ | _ | _ | _ | _ | j
  all_goals simp at hu
  all_goals subst hu
  all_goals assumption
/-- A box that holds a notice, behind whose making something else came. -/
theorem boxed {P w' : World} {p : Nat} {n : Ntc} {A : Option Addr} {c : Nat} {Z : Option Addr} {zc : Nat} {ty : TypeId} (e : p = P.heap.size) (hb : Below (P.heap.size + 1) (P.alloc (.cells (n.val A c Z zc).cells ty)) w') :
    p < w'.heap.size ∧ ∀ j u, (ntL n.a A c Z n.sg.length zc)[j]? = some u → w'.cell? ⟨p, j, none⟩ = some u := by
  subst e
  refine ⟨by have := hb.size; simp at this; omega, fun j u hu => ?_⟩
  rw [hb.cell (p := ⟨P.heap.size, j, none⟩) (Nat.lt_succ_self _)]
  simp [go_sem]
  exact hu

set_option maxRecDepth 100000 in
set_option maxHeartbeats 8000000 in
theorem lknown_ (w : World) (hr : Rdy w) : Calls Tryz.prog 4 #[] w fun e w' => e = .returned (.bool true) ∧ Below w.heap.size w w' := by
  have HR : Hid (∀ W, Below w.heap.size w W → Rdy W) := fun W hW => hr.below hW
  clear hr
  go_enter Tryz.func4, Tryz.ntmps4
  go_wp2_with fail
  refine (mk3_ _).mono ?_
  rintro e w1 ⟨rfl, hb⟩
  obtain ⟨hcw1, hfw1⟩ := bcell hb
  have Hw1 : Hid (Below (w.heap.size) (w) w1) := (show Below (w.heap.size) (w) _ from (by repeat (first | exact Below.refl _ _ | assumption | refine below_drewN ?_ _ | refine Below.drew ?_ | refine Below.setCell ?_ (by first | omega | (simp; done) | (simp; omega)) _ | refine Below.alloc ?_ (by first | omega | (simp; done) | (simp; omega)) _))).trans (hb.mono (by first | omega | (simp; done) | (simp; omega)))
  have hzw1 := hb.size
  try simp at hzw1
  clear hb
  go_wp2_with fail
  refine (mk4_ _).mono ?_
  rintro e w2 ⟨rfl, hb⟩
  obtain ⟨hcw2, hfw2⟩ := bcell hb
  have Hw2 : Hid (Below (w.heap.size) (w) w2) := (show Below (w.heap.size) (w) _ from (by repeat (first | exact Below.refl _ _ | exact (Hw1).out | refine below_drewN ?_ _ | refine Below.drew ?_ | refine Below.setCell ?_ (by first | omega | (simp; done) | (simp; omega)) _ | refine Below.alloc ?_ (by first | omega | (simp; done) | (simp; omega)) _))).trans (hb.mono (by first | omega | (simp; done) | (simp; omega)))
  have Xw2 : Hid (Below (w1.heap.size + 1) (w1.alloc (.cells #[.int .i64 35, .int .i64 5] 36)) w2) := (show Below (w1.heap.size + 1) (w1.alloc (.cells #[.int .i64 35, .int .i64 5] 36)) _ from (by repeat (first | exact Below.refl _ _ | assumption | refine below_drewN ?_ _ | refine Below.drew ?_ | refine Below.setCell ?_ (by first | omega | (simp; done) | (simp; omega)) _ | refine Below.alloc ?_ (by first | omega | (simp; done) | (simp; omega)) _))).trans (hb.mono (by first | omega | (simp; done) | (simp; omega)))
  have hzw2 := hb.size
  try simp at hzw2
  clear hb
  go_wp2_with fail
  refine (mk5_ _).mono ?_
  rintro e w3 ⟨rfl, hb⟩
  obtain ⟨hcw3, hfw3⟩ := bcell hb
  have Hw3 : Hid (Below (w.heap.size) (w) w3) := (show Below (w.heap.size) (w) _ from (by repeat (first | exact Below.refl _ _ | exact (Hw2).out | refine below_drewN ?_ _ | refine Below.drew ?_ | refine Below.setCell ?_ (by first | omega | (simp; done) | (simp; omega)) _ | refine Below.alloc ?_ (by first | omega | (simp; done) | (simp; omega)) _))).trans (hb.mono (by first | omega | (simp; done) | (simp; omega)))
  have Xw3 : Hid (Below (w1.heap.size + 1) (w1.alloc (.cells #[.int .i64 35, .int .i64 5] 36)) w3) := (show Below (w1.heap.size + 1) (w1.alloc (.cells #[.int .i64 35, .int .i64 5] 36)) _ from (by repeat (first | exact Below.refl _ _ | exact (Xw2).out | refine below_drewN ?_ _ | refine Below.drew ?_ | refine Below.setCell ?_ (by first | omega | (simp; done) | (simp; omega)) _ | refine Below.alloc ?_ (by first | omega | (simp; done) | (simp; omega)) _))).trans (hb.mono (by first | omega | (simp; done) | (simp; omega)))
  have Yw3 : Hid (Below (w2.heap.size + 1) (w2.alloc (.cells #[.int .i64 15, .int .i64 3] 36)) w3) := (show Below (w2.heap.size + 1) (w2.alloc (.cells #[.int .i64 15, .int .i64 3] 36)) _ from (by repeat (first | exact Below.refl _ _ | assumption | refine below_drewN ?_ _ | refine Below.drew ?_ | refine Below.setCell ?_ (by first | omega | (simp; done) | (simp; omega)) _ | refine Below.alloc ?_ (by first | omega | (simp; done) | (simp; omega)) _))).trans (hb.mono (by first | omega | (simp; done) | (simp; omega)))
  have hzw3 := hb.size
  try simp at hzw3
  clear hb
  go_wp2_with fail
  refine (mk6_ _).mono ?_
  rintro e w4 ⟨rfl, hb⟩
  obtain ⟨hcw4, hfw4⟩ := bcell hb
  have Hw4 : Hid (Below (w.heap.size) (w) w4) := (show Below (w.heap.size) (w) _ from (by repeat (first | exact Below.refl _ _ | exact (Hw3).out | refine below_drewN ?_ _ | refine Below.drew ?_ | refine Below.setCell ?_ (by first | omega | (simp; done) | (simp; omega)) _ | refine Below.alloc ?_ (by first | omega | (simp; done) | (simp; omega)) _))).trans (hb.mono (by first | omega | (simp; done) | (simp; omega)))
  have Xw4 : Hid (Below (w1.heap.size + 1) (w1.alloc (.cells #[.int .i64 35, .int .i64 5] 36)) w4) := (show Below (w1.heap.size + 1) (w1.alloc (.cells #[.int .i64 35, .int .i64 5] 36)) _ from (by repeat (first | exact Below.refl _ _ | exact (Xw3).out | refine below_drewN ?_ _ | refine Below.drew ?_ | refine Below.setCell ?_ (by first | omega | (simp; done) | (simp; omega)) _ | refine Below.alloc ?_ (by first | omega | (simp; done) | (simp; omega)) _))).trans (hb.mono (by first | omega | (simp; done) | (simp; omega)))
  have Yw4 : Hid (Below (w2.heap.size + 1) (w2.alloc (.cells #[.int .i64 15, .int .i64 3] 36)) w4) := (show Below (w2.heap.size + 1) (w2.alloc (.cells #[.int .i64 15, .int .i64 3] 36)) _ from (by repeat (first | exact Below.refl _ _ | exact (Yw3).out | refine below_drewN ?_ _ | refine Below.drew ?_ | refine Below.setCell ?_ (by first | omega | (simp; done) | (simp; omega)) _ | refine Below.alloc ?_ (by first | omega | (simp; done) | (simp; omega)) _))).trans (hb.mono (by first | omega | (simp; done) | (simp; omega)))
  have hzw4 := hb.size
  try simp at hzw4
  clear hb
  have x0 : w4.cell? ⟨w1.heap.size, 0, none⟩ = some (.int .i64 35) := by rw [Xw4.out.cell (p := ⟨w1.heap.size, 0, none⟩) (Nat.lt_succ_self _)]; simp [go_sem]
  have x1 : w4.cell? ⟨w1.heap.size, 1, none⟩ = some (.int .i64 5) := by rw [Xw4.out.cell (p := ⟨w1.heap.size, 1, none⟩) (Nat.lt_succ_self _)]; simp [go_sem]
  have lw1 : w1.heap.size < w4.heap.size := by omega
  have nw1 : w1.heap.size ≠ w4.heap.size := by omega
  have y0 : w4.cell? ⟨w2.heap.size, 0, none⟩ = some (.int .i64 15) := by rw [Yw4.out.cell (p := ⟨w2.heap.size, 0, none⟩) (Nat.lt_succ_self _)]; simp [go_sem]
  have y1 : w4.cell? ⟨w2.heap.size, 1, none⟩ = some (.int .i64 3) := by rw [Yw4.out.cell (p := ⟨w2.heap.size, 1, none⟩) (Nat.lt_succ_self _)]; simp [go_sem]
  have lw2 : w2.heap.size < w4.heap.size := by omega
  have nw2 : w2.heap.size ≠ w4.heap.size := by omega
  clear hcw1 hfw1 hcw2 hfw2 hcw3 hfw3
  go_wp2_with fail
  refine (ring_ _).mono ?_
  rintro e w5 ⟨K, kc, Z, zc, rfl, hK, hZ, hb⟩
  obtain ⟨hcw5, hfw5⟩ := bcell hb
  have Hw5 : Hid (Below (w.heap.size) (w) w5) := (show Below (w.heap.size) (w) _ from (by repeat (first | exact Below.refl _ _ | exact (Hw4).out | refine below_drewN ?_ _ | refine Below.drew ?_ | refine Below.setCell ?_ (by first | omega | (simp; done) | (simp; omega)) _ | refine Below.alloc ?_ (by first | omega | (simp; done) | (simp; omega)) _))).trans (hb.mono (by first | omega | (simp; done) | (simp; omega)))
  have hzw5 := hb.size
  try simp at hzw5
  have hK2 := SlR.of_own (R := fun i => i < w5.heap.size + 1) hK (fun i _ hi => by show i < _; omega)
  have HK := Lib.hid hK2
  have HZ := Lib.hid (Sl.of_own hZ)
  clear hK hZ hK2
  clear hb
  clear x0 x1 y0 y1 hcw4 hfw4 lw1 lw2 nw1 nw2
  go_wp2_with fail
  refine (newBoard_t ringK 2 K kc _ ((HK.out.sl.below (by repeat (first | exact Below.refl _ _ | assumption | refine below_drewN ?_ _ | refine Below.drew ?_ | refine Below.setCell ?_ (by first | omega | (simp; done) | (simp; omega)) _ | refine Below.alloc ?_ (by first | omega | (simp; done) | (simp; omega)) _))).more (by simp)) ring_ok).mono ?_
  rintro e w6 ⟨b, rfl, hbg, hBd, hb⟩
  obtain ⟨hcw6, hfw6⟩ := bcell hb
  have Hw6 : Hid (Below w.heap.size w w6) := (show Below w.heap.size w _ from (by repeat (first | exact Below.refl _ _ | exact (Hw5).out | refine below_drewN ?_ _ | refine Below.drew ?_ | refine Below.setCell ?_ (by first | omega | (simp; done) | (simp; omega)) _ | refine Below.alloc ?_ (by first | omega | (simp; done) | (simp; omega)) _))).trans (hb.mono (by first | omega | (simp; done) | (simp; omega)))
  have Nw6 : Hid (Below w5.heap.size w5 w6) := (show Below w5.heap.size w5 _ from (by repeat (first | exact Below.refl _ _ | assumption | refine below_drewN ?_ _ | refine Below.drew ?_ | refine Below.setCell ?_ (by first | omega | (simp; done) | (simp; omega)) _ | refine Below.alloc ?_ (by first | omega | (simp; done) | (simp; omega)) _))).trans (hb.mono (by first | omega | (simp; done) | (simp; omega)))
  have hzw6 := Nw6.out.size
  have HK := Lib.hid (HK.out.keep (Kp.of_below (F := fun _ => False) Nw6.out) (fun _ _ f => f))
  have HZ := Lib.hid ((HZ.out.below Nw6.out).more Nw6.out.size)
  have HBD : Hid (Bd w6 (fun i => w5.heap.size + 1 ≤ i ∧ i < w6.heap.size) b ringK 2 []) := hBd.cut.mono (fun i hi => by simpa using hi)
  have r0 : w6.cell? ⟨w5.heap.size, 0, none⟩ = some (.slice K 3 kc) := by rw [hb.cell (p := ⟨w5.heap.size, 0, none⟩) (by simp)]; simp [go_sem]
  have r1 : w6.cell? ⟨w5.heap.size, 1, none⟩ = some (.int .i64 2) := by rw [hb.cell (p := ⟨w5.heap.size, 1, none⟩) (by simp)]; simp [go_sem]
  have lr : w5.heap.size < w6.heap.size := by have := hb.size; simp at this; omega
  have lr1 : w5.heap.size + 1 ≤ w6.heap.size := by omega
  clear hBd hbg
  clear hb hcw5 hfw5
  go_wp2_with fail
  refine (first_ _).mono ?_
  rintro e w7 ⟨A7, c7, rfl, hown, hb⟩
  obtain ⟨hcw7, hfw7⟩ := bcell hb
  have Hw7 : Hid (Below w.heap.size w w7) := (show Below w.heap.size w _ from (by repeat (first | exact Below.refl _ _ | exact (Hw6).out | refine below_drewN ?_ _ | refine Below.drew ?_ | refine Below.setCell ?_ (by first | omega | (simp; done) | (simp; omega)) _ | refine Below.alloc ?_ (by first | omega | (simp; done) | (simp; omega)) _))).trans (hb.mono (by first | omega | (simp; done) | (simp; omega)))
  have Nw7 : Hid (Below w6.heap.size w6 w7) := (show Below w6.heap.size w6 _ from (by repeat (first | exact Below.refl _ _ | assumption | refine below_drewN ?_ _ | refine Below.drew ?_ | refine Below.setCell ?_ (by first | omega | (simp; done) | (simp; omega)) _ | refine Below.alloc ?_ (by first | omega | (simp; done) | (simp; omega)) _))).trans (hb.mono (by first | omega | (simp; done) | (simp; omega)))
  have hzw7 := Nw7.out.size
  have HK := Lib.hid (HK.out.keep (Kp.of_below (F := fun _ => False) Nw7.out) (fun _ _ f => f))
  have HZ := Lib.hid ((HZ.out.below Nw7.out).more Nw7.out.size)
  have HBD := Lib.hid (HBD.out.below Nw7.out)
  have r0 := (Nw7.out.cell (p := ⟨w5.heap.size, 0, none⟩) lr).trans r0
  have r1 := (Nw7.out.cell (p := ⟨w5.heap.size, 1, none⟩) lr).trans r1
  have lr : w5.heap.size < w7.heap.size := by omega
  have HA7 := Lib.hid (fst_in hown)
  clear hown
  clear hb hcw6 hfw6
  go_wp2_with fail
  refine (wd_ A7 c7 _ HA7.out (HR.out _ Hw7.out)).mono ?_
  rintro e w8 ⟨A8, c8, rfl, hown, hb⟩
  obtain ⟨hcw8, hfw8⟩ := bcell hb
  have Hw8 : Hid (Below w.heap.size w w8) := (show Below w.heap.size w _ from (by repeat (first | exact Below.refl _ _ | exact (Hw7).out | refine below_drewN ?_ _ | refine Below.drew ?_ | refine Below.setCell ?_ (by first | omega | (simp; done) | (simp; omega)) _ | refine Below.alloc ?_ (by first | omega | (simp; done) | (simp; omega)) _))).trans (hb.mono (by first | omega | (simp; done) | (simp; omega)))
  have Nw8 : Hid (Below w7.heap.size w7 w8) := (show Below w7.heap.size w7 _ from (by repeat (first | exact Below.refl _ _ | assumption | refine below_drewN ?_ _ | refine Below.drew ?_ | refine Below.setCell ?_ (by first | omega | (simp; done) | (simp; omega)) _ | refine Below.alloc ?_ (by first | omega | (simp; done) | (simp; omega)) _))).trans (hb.mono (by first | omega | (simp; done) | (simp; omega)))
  have hzw8 := Nw8.out.size
  have HK := Lib.hid (HK.out.keep (Kp.of_below (F := fun _ => False) Nw8.out) (fun _ _ f => f))
  have HZ := Lib.hid ((HZ.out.below Nw8.out).more Nw8.out.size)
  have HBD := Lib.hid (HBD.out.below Nw8.out)
  have r0 := (Nw8.out.cell (p := ⟨w5.heap.size, 0, none⟩) lr).trans r0
  have r1 := (Nw8.out.cell (p := ⟨w5.heap.size, 1, none⟩) lr).trans r1
  have lr : w5.heap.size < w8.heap.size := by omega
  have HA8 := Lib.hid (Sl.of_own hown)
  clear hown HA7
  clear hb hcw7 hfw7
  go_wp2_with fail
  refine (first_ _).mono ?_
  rintro e w9 ⟨A9, c9, rfl, hown, hb⟩
  obtain ⟨hcw9, hfw9⟩ := bcell hb
  have Hw9 : Hid (Below w.heap.size w w9) := (show Below w.heap.size w _ from (by repeat (first | exact Below.refl _ _ | exact (Hw8).out | refine below_drewN ?_ _ | refine Below.drew ?_ | refine Below.setCell ?_ (by first | omega | (simp; done) | (simp; omega)) _ | refine Below.alloc ?_ (by first | omega | (simp; done) | (simp; omega)) _))).trans (hb.mono (by first | omega | (simp; done) | (simp; omega)))
  have Nw9 : Hid (Below w8.heap.size w8 w9) := (show Below w8.heap.size w8 _ from (by repeat (first | exact Below.refl _ _ | assumption | refine below_drewN ?_ _ | refine Below.drew ?_ | refine Below.setCell ?_ (by first | omega | (simp; done) | (simp; omega)) _ | refine Below.alloc ?_ (by first | omega | (simp; done) | (simp; omega)) _))).trans (hb.mono (by first | omega | (simp; done) | (simp; omega)))
  have hzw9 := Nw9.out.size
  have HK := Lib.hid (HK.out.keep (Kp.of_below (F := fun _ => False) Nw9.out) (fun _ _ f => f))
  have HZ := Lib.hid ((HZ.out.below Nw9.out).more Nw9.out.size)
  have HBD := Lib.hid (HBD.out.below Nw9.out)
  have r0 := (Nw9.out.cell (p := ⟨w5.heap.size, 0, none⟩) lr).trans r0
  have r1 := (Nw9.out.cell (p := ⟨w5.heap.size, 1, none⟩) lr).trans r1
  have lr : w5.heap.size < w9.heap.size := by omega
  have HA8 := Lib.hid ((HA8.out.below Nw9.out).more Nw9.out.size)
  have HA9 := Lib.hid (SlR.of_own (R := fun i => w6.heap.size ≤ i ∧ i < w9.heap.size) hown (fun i h1 h2 => ⟨by have h3 := h1; (try simp at h3); omega, h2⟩))
  have l8 : w8.heap.size + 3 ≤ w9.heap.size := by have := hb.size; simp at this; omega
  have T17 : Hid (Ab w9 w8.heap.size fstW A8 c8) := ⟨by omega, nine (P := fun j u => w9.cell? ⟨w8.heap.size, j, none⟩ = some u) (by rw [hb.cell (p := ⟨w8.heap.size, 0, none⟩) (by first | (simp; done) | (simp; omega))]; simp [go_sem]) (by rw [hb.cell (p := ⟨w8.heap.size, 1, none⟩) (by first | (simp; done) | (simp; omega))]; simp [go_sem]) (by rw [hb.cell (p := ⟨w8.heap.size, 2, none⟩) (by first | (simp; done) | (simp; omega))]; simp [go_sem]) (by rw [hb.cell (p := ⟨w8.heap.size, 3, none⟩) (by first | (simp; done) | (simp; omega))]; simp [go_sem]) (by rw [hb.cell (p := ⟨w8.heap.size, 4, none⟩) (by first | (simp; done) | (simp; omega))]; simp [go_sem]) (by rw [hb.cell (p := ⟨w8.heap.size, 5, none⟩) (by first | (simp; done) | (simp; omega))]; simp [go_sem]) (by rw [hb.cell (p := ⟨w8.heap.size, 6, none⟩) (by first | (simp; done) | (simp; omega))]; simp [go_sem]) (by rw [hb.cell (p := ⟨w8.heap.size, 7, none⟩) (by first | (simp; done) | (simp; omega))]; simp [go_sem]) (by rw [hb.cell (p := ⟨w8.heap.size, 8, none⟩) (by first | (simp; done) | (simp; omega))]; simp [go_sem])⟩
  have T18 : Hid (Ab w9 (w8.heap.size + 1) thdA (some ⟨w8.heap.size + 1 + 1, 0, none⟩) 1) := ⟨by omega, nine (P := fun j u => w9.cell? ⟨w8.heap.size + 1, j, none⟩ = some u) (by rw [hb.cell (p := ⟨w8.heap.size + 1, 0, none⟩) (by first | (simp; done) | (simp; omega))]; simp [go_sem, fstW, thdA]) (by rw [hb.cell (p := ⟨w8.heap.size + 1, 1, none⟩) (by first | (simp; done) | (simp; omega))]; simp [go_sem, fstW, thdA]) (by rw [hb.cell (p := ⟨w8.heap.size + 1, 2, none⟩) (by first | (simp; done) | (simp; omega))]; simp [go_sem, fstW, thdA]) (by rw [hb.cell (p := ⟨w8.heap.size + 1, 3, none⟩) (by first | (simp; done) | (simp; omega))]; simp [go_sem, fstW, thdA]) (by rw [hb.cell (p := ⟨w8.heap.size + 1, 4, none⟩) (by first | (simp; done) | (simp; omega))]; simp [go_sem, fstW, thdA]) (by rw [hb.cell (p := ⟨w8.heap.size + 1, 5, none⟩) (by first | (simp; done) | (simp; omega))]; simp [go_sem, fstW, thdA]) (by rw [hb.cell (p := ⟨w8.heap.size + 1, 6, none⟩) (by first | (simp; done) | (simp; omega))]; simp [go_sem, fstW, thdA]) (by rw [hb.cell (p := ⟨w8.heap.size + 1, 7, none⟩) (by first | (simp; done) | (simp; omega))]; simp [go_sem, fstW, thdA]) (by rw [hb.cell (p := ⟨w8.heap.size + 1, 8, none⟩) (by first | (simp; done) | (simp; omega))]; simp [go_sem, fstW, thdA])⟩
  have S18 : Hid (SlR w9 (fun i => w6.heap.size ≤ i ∧ i < w9.heap.size) 1 (some ⟨w8.heap.size + 1 + 1, 0, none⟩) 1 1 (ints [1])) := SlR.of_lit ⟨rfl, Nat.le_refl _, by decide, (fun e => by cases e), fun _ => ⟨_, _, rfl, (by omega), fun j u hu => by
    rcases j with _ | j
    · simp [ints] at hu; subst hu; rw [hb.cell (p := ⟨w8.heap.size + 1 + 1, 0 + 0, none⟩) (by simp)]; simp [go_sem]
    · simp [ints] at hu⟩⟩ (fun _ a ea => by
    cases ea
    exact ⟨by show _ ≤ w8.heap.size + 1 + 1; omega, by show w8.heap.size + 1 + 1 < _; omega⟩)
  clear hown
  clear hb hcw8 hfw8
  go_wp2_with fail
  refine (sgA_ fstA sgn2 2 (by decide) fst_ok sgn2_is K kc Z zc A9 c9 _ ((HK.out.sl.below (show Below w9.heap.size w9 _ from (by repeat (first | exact Below.refl _ _ | assumption | refine below_drewN ?_ _ | refine Below.drew ?_ | refine Below.setCell ?_ (by first | omega | (simp; done) | (simp; omega)) _ | refine Below.alloc ?_ (by first | omega | (simp; done) | (simp; omega)) _)))).more (show Below w9.heap.size w9 _ from (by repeat (first | exact Below.refl _ _ | assumption | refine below_drewN ?_ _ | refine Below.drew ?_ | refine Below.setCell ?_ (by first | omega | (simp; done) | (simp; omega)) _ | refine Below.alloc ?_ (by first | omega | (simp; done) | (simp; omega)) _))).size) ((HZ.out.below (show Below w9.heap.size w9 _ from (by repeat (first | exact Below.refl _ _ | assumption | refine below_drewN ?_ _ | refine Below.drew ?_ | refine Below.setCell ?_ (by first | omega | (simp; done) | (simp; omega)) _ | refine Below.alloc ?_ (by first | omega | (simp; done) | (simp; omega)) _)))).more (show Below w9.heap.size w9 _ from (by repeat (first | exact Below.refl _ _ | assumption | refine below_drewN ?_ _ | refine Below.drew ?_ | refine Below.setCell ?_ (by first | omega | (simp; done) | (simp; omega)) _ | refine Below.alloc ?_ (by first | omega | (simp; done) | (simp; omega)) _))).size) ⟨by decide, (HA9.out.sl.below (show Below w9.heap.size w9 _ from (by repeat (first | exact Below.refl _ _ | assumption | refine below_drewN ?_ _ | refine Below.drew ?_ | refine Below.setCell ?_ (by first | omega | (simp; done) | (simp; omega)) _ | refine Below.alloc ?_ (by first | omega | (simp; done) | (simp; omega)) _)))).more (show Below w9.heap.size w9 _ from (by repeat (first | exact Below.refl _ _ | assumption | refine below_drewN ?_ _ | refine Below.drew ?_ | refine Below.setCell ?_ (by first | omega | (simp; done) | (simp; omega)) _ | refine Below.alloc ?_ (by first | omega | (simp; done) | (simp; omega)) _))).size⟩ (HR.out _ (show Below w.heap.size w _ from (by repeat (first | exact Below.refl _ _ | exact (Hw9).out | refine below_drewN ?_ _ | refine Below.drew ?_ | refine Below.setCell ?_ (by first | omega | (simp; done) | (simp; omega)) _ | refine Below.alloc ?_ (by first | omega | (simp; done) | (simp; omega)) _))))).mono ?_
  rintro e w10 ⟨S10, z10, rfl, hown, hb⟩
  obtain ⟨hcw10, hfw10⟩ := bcell hb
  have Hw10 : Hid (Below w.heap.size w w10) := (show Below w.heap.size w _ from (by repeat (first | exact Below.refl _ _ | exact (Hw9).out | refine below_drewN ?_ _ | refine Below.drew ?_ | refine Below.setCell ?_ (by first | omega | (simp; done) | (simp; omega)) _ | refine Below.alloc ?_ (by first | omega | (simp; done) | (simp; omega)) _))).trans (hb.mono (by first | omega | (simp; done) | (simp; omega)))
  have Nw10 : Hid (Below w9.heap.size w9 w10) := (show Below w9.heap.size w9 _ from (by repeat (first | exact Below.refl _ _ | assumption | refine below_drewN ?_ _ | refine Below.drew ?_ | refine Below.setCell ?_ (by first | omega | (simp; done) | (simp; omega)) _ | refine Below.alloc ?_ (by first | omega | (simp; done) | (simp; omega)) _))).trans (hb.mono (by first | omega | (simp; done) | (simp; omega)))
  have hzw10 := Nw10.out.size
  have HK := Lib.hid (HK.out.keep (Kp.of_below (F := fun _ => False) Nw10.out) (fun _ _ f => f))
  have HZ := Lib.hid ((HZ.out.below Nw10.out).more Nw10.out.size)
  have HBD := Lib.hid (HBD.out.below Nw10.out)
  have r0 := (Nw10.out.cell (p := ⟨w5.heap.size, 0, none⟩) lr).trans r0
  have r1 := (Nw10.out.cell (p := ⟨w5.heap.size, 1, none⟩) lr).trans r1
  have lr : w5.heap.size < w10.heap.size := by omega
  have HA8 := Lib.hid ((HA8.out.below Nw10.out).more Nw10.out.size)
  have HA9 := Lib.hid (HA9.out.keep (Kp.of_below (F := fun _ => False) Nw10.out) (fun _ _ f => f))
  have T17 := Lib.hid (T17.out.below Nw10.out)
  have T18 := Lib.hid (T18.out.below Nw10.out)
  have S18 := Lib.hid (S18.out.keep (Kp.of_below (F := fun _ => False) Nw10.out) (fun _ _ f => f))
  have HS10 := Lib.hid (SlR.of_own (R := fun i => w6.heap.size ≤ i ∧ i < w10.heap.size) hown (fun i h1 h2 => ⟨by have h3 := h1; (try simp at h3); omega, h2⟩))
  clear hown
  clear hb hcw9 hfw9
  obtain ⟨a0, a1, a2, a3, a4, a5, a6, a7, a8⟩ := T17.out.cells
  have lp := T17.out.lt
  have np : w8.heap.size ≠ w10.heap.size := by omega
  go_wp2_with fail
  refine (sgA_ fstW sgw3 3 (by decide) fstW_ok sgw3_is K kc Z zc A8 c8 _ ((HK.out.sl.below (show Below w10.heap.size w10 _ from (by repeat (first | exact Below.refl _ _ | assumption | refine below_drewN ?_ _ | refine Below.drew ?_ | refine Below.setCell ?_ (by first | omega | (simp; done) | (simp; omega)) _ | refine Below.alloc ?_ (by first | omega | (simp; done) | (simp; omega)) _)))).more (show Below w10.heap.size w10 _ from (by repeat (first | exact Below.refl _ _ | assumption | refine below_drewN ?_ _ | refine Below.drew ?_ | refine Below.setCell ?_ (by first | omega | (simp; done) | (simp; omega)) _ | refine Below.alloc ?_ (by first | omega | (simp; done) | (simp; omega)) _))).size) ((HZ.out.below (show Below w10.heap.size w10 _ from (by repeat (first | exact Below.refl _ _ | assumption | refine below_drewN ?_ _ | refine Below.drew ?_ | refine Below.setCell ?_ (by first | omega | (simp; done) | (simp; omega)) _ | refine Below.alloc ?_ (by first | omega | (simp; done) | (simp; omega)) _)))).more (show Below w10.heap.size w10 _ from (by repeat (first | exact Below.refl _ _ | assumption | refine below_drewN ?_ _ | refine Below.drew ?_ | refine Below.setCell ?_ (by first | omega | (simp; done) | (simp; omega)) _ | refine Below.alloc ?_ (by first | omega | (simp; done) | (simp; omega)) _))).size) ⟨by decide, (HA8.out.below (show Below w10.heap.size w10 _ from (by repeat (first | exact Below.refl _ _ | assumption | refine below_drewN ?_ _ | refine Below.drew ?_ | refine Below.setCell ?_ (by first | omega | (simp; done) | (simp; omega)) _ | refine Below.alloc ?_ (by first | omega | (simp; done) | (simp; omega)) _)))).more (show Below w10.heap.size w10 _ from (by repeat (first | exact Below.refl _ _ | assumption | refine below_drewN ?_ _ | refine Below.drew ?_ | refine Below.setCell ?_ (by first | omega | (simp; done) | (simp; omega)) _ | refine Below.alloc ?_ (by first | omega | (simp; done) | (simp; omega)) _))).size⟩ (HR.out _ (show Below w.heap.size w _ from (by repeat (first | exact Below.refl _ _ | exact (Hw10).out | refine below_drewN ?_ _ | refine Below.drew ?_ | refine Below.setCell ?_ (by first | omega | (simp; done) | (simp; omega)) _ | refine Below.alloc ?_ (by first | omega | (simp; done) | (simp; omega)) _))))).mono ?_
  rintro e w11 ⟨S11, z11, rfl, hown, hb⟩
  obtain ⟨hcw11, hfw11⟩ := bcell hb
  have Hw11 : Hid (Below w.heap.size w w11) := (show Below w.heap.size w _ from (by repeat (first | exact Below.refl _ _ | exact (Hw10).out | refine below_drewN ?_ _ | refine Below.drew ?_ | refine Below.setCell ?_ (by first | omega | (simp; done) | (simp; omega)) _ | refine Below.alloc ?_ (by first | omega | (simp; done) | (simp; omega)) _))).trans (hb.mono (by first | omega | (simp; done) | (simp; omega)))
  have Nw11 : Hid (Below w10.heap.size w10 w11) := (show Below w10.heap.size w10 _ from (by repeat (first | exact Below.refl _ _ | assumption | refine below_drewN ?_ _ | refine Below.drew ?_ | refine Below.setCell ?_ (by first | omega | (simp; done) | (simp; omega)) _ | refine Below.alloc ?_ (by first | omega | (simp; done) | (simp; omega)) _))).trans (hb.mono (by first | omega | (simp; done) | (simp; omega)))
  have hzw11 := Nw11.out.size
  have HK := Lib.hid (HK.out.keep (Kp.of_below (F := fun _ => False) Nw11.out) (fun _ _ f => f))
  have HZ := Lib.hid ((HZ.out.below Nw11.out).more Nw11.out.size)
  have HBD := Lib.hid (HBD.out.below Nw11.out)
  have r0 := (Nw11.out.cell (p := ⟨w5.heap.size, 0, none⟩) lr).trans r0
  have r1 := (Nw11.out.cell (p := ⟨w5.heap.size, 1, none⟩) lr).trans r1
  have lr : w5.heap.size < w11.heap.size := by omega
  have HA8 := Lib.hid ((HA8.out.below Nw11.out).more Nw11.out.size)
  have HA9 := Lib.hid (HA9.out.keep (Kp.of_below (F := fun _ => False) Nw11.out) (fun _ _ f => f))
  have T17 := Lib.hid (T17.out.below Nw11.out)
  have T18 := Lib.hid (T18.out.below Nw11.out)
  have S18 := Lib.hid (S18.out.keep (Kp.of_below (F := fun _ => False) Nw11.out) (fun _ _ f => f))
  have HS10 := Lib.hid (HS10.out.keep (Kp.of_below (F := fun _ => False) Nw11.out) (fun _ _ f => f))
  obtain ⟨bl, bc⟩ := boxed (P := w10) (n := kN) (A := A9) (c := c9) (Z := S10) (zc := z10) rfl (hb.mono (by simp))
  have Bw10 : Hid (Bx w11 w6.heap.size w11.heap.size w10.heap.size kN A9 c9 S10 z10) := ⟨by omega, bl, bl, bc, by decide, HA9.out.mono (fun i hi => ⟨hi.1, by have := hi.2; omega⟩), HS10.out.mono (fun i hi => ⟨hi.1, by have := hi.2; omega⟩)⟩
  clear bl bc
  have HS11 := Lib.hid (SlR.of_own (R := fun i => w6.heap.size ≤ i ∧ i < w11.heap.size) hown (fun i h1 h2 => ⟨by have h3 := h1; (try simp at h3); omega, h2⟩))
  clear hown
  clear hb hcw10 hfw10
  clear a0 a1 a2 a3 a4 a5 a6 a7 a8 lp np
  obtain ⟨a0, a1, a2, a3, a4, a5, a6, a7, a8⟩ := T18.out.cells
  have lp := T18.out.lt
  have np : w8.heap.size + 1 ≠ w11.heap.size := by omega
  go_wp2_with fail
  refine (sgA_ thdA sgk2 2 (by decide) thd_ok sgk2_is K kc Z zc (some ⟨w8.heap.size + 1 + 1, 0, none⟩) 1 _ ((HK.out.sl.below (show Below w11.heap.size w11 _ from (by repeat (first | exact Below.refl _ _ | assumption | refine below_drewN ?_ _ | refine Below.drew ?_ | refine Below.setCell ?_ (by first | omega | (simp; done) | (simp; omega)) _ | refine Below.alloc ?_ (by first | omega | (simp; done) | (simp; omega)) _)))).more (show Below w11.heap.size w11 _ from (by repeat (first | exact Below.refl _ _ | assumption | refine below_drewN ?_ _ | refine Below.drew ?_ | refine Below.setCell ?_ (by first | omega | (simp; done) | (simp; omega)) _ | refine Below.alloc ?_ (by first | omega | (simp; done) | (simp; omega)) _))).size) ((HZ.out.below (show Below w11.heap.size w11 _ from (by repeat (first | exact Below.refl _ _ | assumption | refine below_drewN ?_ _ | refine Below.drew ?_ | refine Below.setCell ?_ (by first | omega | (simp; done) | (simp; omega)) _ | refine Below.alloc ?_ (by first | omega | (simp; done) | (simp; omega)) _)))).more (show Below w11.heap.size w11 _ from (by repeat (first | exact Below.refl _ _ | assumption | refine below_drewN ?_ _ | refine Below.drew ?_ | refine Below.setCell ?_ (by first | omega | (simp; done) | (simp; omega)) _ | refine Below.alloc ?_ (by first | omega | (simp; done) | (simp; omega)) _))).size) ⟨by decide, (S18.out.sl.below (show Below w11.heap.size w11 _ from (by repeat (first | exact Below.refl _ _ | assumption | refine below_drewN ?_ _ | refine Below.drew ?_ | refine Below.setCell ?_ (by first | omega | (simp; done) | (simp; omega)) _ | refine Below.alloc ?_ (by first | omega | (simp; done) | (simp; omega)) _)))).more (show Below w11.heap.size w11 _ from (by repeat (first | exact Below.refl _ _ | assumption | refine below_drewN ?_ _ | refine Below.drew ?_ | refine Below.setCell ?_ (by first | omega | (simp; done) | (simp; omega)) _ | refine Below.alloc ?_ (by first | omega | (simp; done) | (simp; omega)) _))).size⟩ (HR.out _ (show Below w.heap.size w _ from (by repeat (first | exact Below.refl _ _ | exact (Hw11).out | refine below_drewN ?_ _ | refine Below.drew ?_ | refine Below.setCell ?_ (by first | omega | (simp; done) | (simp; omega)) _ | refine Below.alloc ?_ (by first | omega | (simp; done) | (simp; omega)) _))))).mono ?_
  rintro e w12 ⟨S12, z12, rfl, hown, hb⟩
  obtain ⟨hcw12, hfw12⟩ := bcell hb
  have Hw12 : Hid (Below w.heap.size w w12) := (show Below w.heap.size w _ from (by repeat (first | exact Below.refl _ _ | exact (Hw11).out | refine below_drewN ?_ _ | refine Below.drew ?_ | refine Below.setCell ?_ (by first | omega | (simp; done) | (simp; omega)) _ | refine Below.alloc ?_ (by first | omega | (simp; done) | (simp; omega)) _))).trans (hb.mono (by first | omega | (simp; done) | (simp; omega)))
  have Nw12 : Hid (Below w11.heap.size w11 w12) := (show Below w11.heap.size w11 _ from (by repeat (first | exact Below.refl _ _ | assumption | refine below_drewN ?_ _ | refine Below.drew ?_ | refine Below.setCell ?_ (by first | omega | (simp; done) | (simp; omega)) _ | refine Below.alloc ?_ (by first | omega | (simp; done) | (simp; omega)) _))).trans (hb.mono (by first | omega | (simp; done) | (simp; omega)))
  have hzw12 := Nw12.out.size
  have HK := Lib.hid (HK.out.keep (Kp.of_below (F := fun _ => False) Nw12.out) (fun _ _ f => f))
  have HZ := Lib.hid ((HZ.out.below Nw12.out).more Nw12.out.size)
  have HBD := Lib.hid (HBD.out.below Nw12.out)
  have r0 := (Nw12.out.cell (p := ⟨w5.heap.size, 0, none⟩) lr).trans r0
  have r1 := (Nw12.out.cell (p := ⟨w5.heap.size, 1, none⟩) lr).trans r1
  have lr : w5.heap.size < w12.heap.size := by omega
  have HA8 := Lib.hid ((HA8.out.below Nw12.out).more Nw12.out.size)
  have T18 := Lib.hid (T18.out.below Nw12.out)
  have S18 := Lib.hid (S18.out.keep (Kp.of_below (F := fun _ => False) Nw12.out) (fun _ _ f => f))
  have Bw10 := Lib.hid (Bw10.out.below Nw12.out)
  have HS11 := Lib.hid (HS11.out.keep (Kp.of_below (F := fun _ => False) Nw12.out) (fun _ _ f => f))
  obtain ⟨bl, bc⟩ := boxed (P := w11) (n := kM) (A := A8) (c := c8) (Z := S11) (zc := z11) rfl (hb.mono (by simp))
  have Bw11 : Hid (Bx w12 w6.heap.size w12.heap.size w11.heap.size kM A8 c8 S11 z11) := ⟨by omega, bl, bl, bc, by decide, SlR.of_lit ⟨HA8.out.len, HA8.out.cap, HA8.out.max, HA8.out.nil_, HA8.out.at_⟩ (fun h => absurd h (by decide)), HS11.out.mono (fun i hi => ⟨hi.1, by have := hi.2; omega⟩)⟩
  clear bl bc
  have HS12 := Lib.hid (SlR.of_own (R := fun i => w6.heap.size ≤ i ∧ i < w12.heap.size) hown (fun i h1 h2 => ⟨by have h3 := h1; (try simp at h3); omega, h2⟩))
  clear hown
  clear hb hcw11 hfw11
  clear a0 a1 a2 a3 a4 a5 a6 a7 a8 lp np
  go_wp2_with fail
  refine (first_ _).mono ?_
  rintro e w13 ⟨A13, c13, rfl, hown, hb⟩
  obtain ⟨hcw13, hfw13⟩ := bcell hb
  have Hw13 : Hid (Below w.heap.size w w13) := (show Below w.heap.size w _ from (by repeat (first | exact Below.refl _ _ | exact (Hw12).out | refine below_drewN ?_ _ | refine Below.drew ?_ | refine Below.setCell ?_ (by first | omega | (simp; done) | (simp; omega)) _ | refine Below.alloc ?_ (by first | omega | (simp; done) | (simp; omega)) _))).trans (hb.mono (by first | omega | (simp; done) | (simp; omega)))
  have Nw13 : Hid (Below w12.heap.size w12 w13) := (show Below w12.heap.size w12 _ from (by repeat (first | exact Below.refl _ _ | assumption | refine below_drewN ?_ _ | refine Below.drew ?_ | refine Below.setCell ?_ (by first | omega | (simp; done) | (simp; omega)) _ | refine Below.alloc ?_ (by first | omega | (simp; done) | (simp; omega)) _))).trans (hb.mono (by first | omega | (simp; done) | (simp; omega)))
  have hzw13 := Nw13.out.size
  have HK := Lib.hid (HK.out.keep (Kp.of_below (F := fun _ => False) Nw13.out) (fun _ _ f => f))
  have HZ := Lib.hid ((HZ.out.below Nw13.out).more Nw13.out.size)
  have HBD := Lib.hid (HBD.out.below Nw13.out)
  have r0 := (Nw13.out.cell (p := ⟨w5.heap.size, 0, none⟩) lr).trans r0
  have r1 := (Nw13.out.cell (p := ⟨w5.heap.size, 1, none⟩) lr).trans r1
  have lr : w5.heap.size < w13.heap.size := by omega
  have S18 := Lib.hid (S18.out.keep (Kp.of_below (F := fun _ => False) Nw13.out) (fun _ _ f => f))
  have Bw10 := Lib.hid (Bw10.out.below Nw13.out)
  have Bw11 := Lib.hid (Bw11.out.below Nw13.out)
  have HS12 := Lib.hid (HS12.out.keep (Kp.of_below (F := fun _ => False) Nw13.out) (fun _ _ f => f))
  obtain ⟨bl, bc⟩ := boxed (P := w12) (n := kK) (A := (some ⟨w8.heap.size + 1 + 1, 0, none⟩)) (c := 1) (Z := S12) (zc := z12) rfl (hb.mono (by simp))
  have Bw12 : Hid (Bx w13 w6.heap.size w13.heap.size w12.heap.size kK (some ⟨w8.heap.size + 1 + 1, 0, none⟩) 1 S12 z12) := ⟨by omega, bl, bl, bc, by decide, S18.out.mono (fun i hi => ⟨hi.1, by have := hi.2; omega⟩), HS12.out.mono (fun i hi => ⟨hi.1, by have := hi.2; omega⟩)⟩
  clear bl bc
  have HA13 := Lib.hid (SlR.of_own (R := fun i => w6.heap.size ≤ i ∧ i < w13.heap.size) hown (fun i h1 h2 => ⟨by have h3 := h1; (try simp at h3); omega, h2⟩))
  clear hown
  clear hb hcw12 hfw12
  go_wp2_with fail
  refine (sgA_ fstA sgf1 1 (by decide) fst_ok sgf1_is K kc Z zc A13 c13 _ ((HK.out.sl.below (show Below w13.heap.size w13 _ from (by repeat (first | exact Below.refl _ _ | assumption | refine below_drewN ?_ _ | refine Below.drew ?_ | refine Below.setCell ?_ (by first | omega | (simp; done) | (simp; omega)) _ | refine Below.alloc ?_ (by first | omega | (simp; done) | (simp; omega)) _)))).more (show Below w13.heap.size w13 _ from (by repeat (first | exact Below.refl _ _ | assumption | refine below_drewN ?_ _ | refine Below.drew ?_ | refine Below.setCell ?_ (by first | omega | (simp; done) | (simp; omega)) _ | refine Below.alloc ?_ (by first | omega | (simp; done) | (simp; omega)) _))).size) ((HZ.out.below (show Below w13.heap.size w13 _ from (by repeat (first | exact Below.refl _ _ | assumption | refine below_drewN ?_ _ | refine Below.drew ?_ | refine Below.setCell ?_ (by first | omega | (simp; done) | (simp; omega)) _ | refine Below.alloc ?_ (by first | omega | (simp; done) | (simp; omega)) _)))).more (show Below w13.heap.size w13 _ from (by repeat (first | exact Below.refl _ _ | assumption | refine below_drewN ?_ _ | refine Below.drew ?_ | refine Below.setCell ?_ (by first | omega | (simp; done) | (simp; omega)) _ | refine Below.alloc ?_ (by first | omega | (simp; done) | (simp; omega)) _))).size) ⟨by decide, (HA13.out.sl.below (show Below w13.heap.size w13 _ from (by repeat (first | exact Below.refl _ _ | assumption | refine below_drewN ?_ _ | refine Below.drew ?_ | refine Below.setCell ?_ (by first | omega | (simp; done) | (simp; omega)) _ | refine Below.alloc ?_ (by first | omega | (simp; done) | (simp; omega)) _)))).more (show Below w13.heap.size w13 _ from (by repeat (first | exact Below.refl _ _ | assumption | refine below_drewN ?_ _ | refine Below.drew ?_ | refine Below.setCell ?_ (by first | omega | (simp; done) | (simp; omega)) _ | refine Below.alloc ?_ (by first | omega | (simp; done) | (simp; omega)) _))).size⟩ (HR.out _ (show Below w.heap.size w _ from (by repeat (first | exact Below.refl _ _ | exact (Hw13).out | refine below_drewN ?_ _ | refine Below.drew ?_ | refine Below.setCell ?_ (by first | omega | (simp; done) | (simp; omega)) _ | refine Below.alloc ?_ (by first | omega | (simp; done) | (simp; omega)) _))))).mono ?_
  rintro e w14 ⟨S14, z14, rfl, hown, hb⟩
  obtain ⟨hcw14, hfw14⟩ := bcell hb
  have Hw14 : Hid (Below w.heap.size w w14) := (show Below w.heap.size w _ from (by repeat (first | exact Below.refl _ _ | exact (Hw13).out | refine below_drewN ?_ _ | refine Below.drew ?_ | refine Below.setCell ?_ (by first | omega | (simp; done) | (simp; omega)) _ | refine Below.alloc ?_ (by first | omega | (simp; done) | (simp; omega)) _))).trans (hb.mono (by first | omega | (simp; done) | (simp; omega)))
  have Nw14 : Hid (Below w13.heap.size w13 w14) := (show Below w13.heap.size w13 _ from (by repeat (first | exact Below.refl _ _ | assumption | refine below_drewN ?_ _ | refine Below.drew ?_ | refine Below.setCell ?_ (by first | omega | (simp; done) | (simp; omega)) _ | refine Below.alloc ?_ (by first | omega | (simp; done) | (simp; omega)) _))).trans (hb.mono (by first | omega | (simp; done) | (simp; omega)))
  have hzw14 := Nw14.out.size
  have HK := Lib.hid (HK.out.keep (Kp.of_below (F := fun _ => False) Nw14.out) (fun _ _ f => f))
  have HZ := Lib.hid ((HZ.out.below Nw14.out).more Nw14.out.size)
  have HBD := Lib.hid (HBD.out.below Nw14.out)
  have r0 := (Nw14.out.cell (p := ⟨w5.heap.size, 0, none⟩) lr).trans r0
  have r1 := (Nw14.out.cell (p := ⟨w5.heap.size, 1, none⟩) lr).trans r1
  have lr : w5.heap.size < w14.heap.size := by omega
  have Bw10 := Lib.hid (Bw10.out.below Nw14.out)
  have Bw11 := Lib.hid (Bw11.out.below Nw14.out)
  have Bw12 := Lib.hid (Bw12.out.below Nw14.out)
  have HA13 := Lib.hid (HA13.out.keep (Kp.of_below (F := fun _ => False) Nw14.out) (fun _ _ f => f))
  have HS14 := Lib.hid (SlR.of_own (R := fun i => w6.heap.size ≤ i ∧ i < w14.heap.size) hown (fun i h1 h2 => ⟨by have h3 := h1; (try simp at h3); omega, h2⟩))
  clear hown
  clear hb hcw13 hfw13
  go_upto_if 150 with fail
  go_cut [15, 16, 19, 21, 23, 25] (KnCut w)
  case first =>
    go_wp2_with fail
    go_meet
    case rel =>
      have bx := boxed (P := w14) (n := kF) (A := A13) (c := c13) (Z := S14) (zc := z14) (ty := 54) rfl (Below.refl _ _)
      refine ⟨w5.heap.size + 1, w6.heap.size, w14.heap.size + 1, b, w5.heap.size, K, kc, w14.heap.size, w11.heap.size, w10.heap.size, w12.heap.size, ⟨kF, A13, c13, S14, z14⟩, ⟨kM, A8, c8, S11, z11⟩, ⟨kN, A9, c9, S10, z10⟩, ⟨kK, some ⟨w8.heap.size + 1 + 1, 0, none⟩, 1, S12, z12⟩, rfl, rfl, rfl, rfl, rfl, rfl, ?_⟩
      exact ⟨by omega, by omega, by omega, by simp, by omega, (HBD.out.below (by (repeat (first | exact Below.refl _ _ | assumption | refine below_drewN ?_ _ | refine Below.drew ?_ | refine Below.setCell ?_ (by first | omega | (simp; done) | (simp; omega)) _ | refine Below.alloc ?_ (by first | omega | (simp; done) | (simp; omega)) _)))).mono (fun i hi => .inl hi), ((show Below w14.heap.size w14 _ from by (repeat (first | exact Below.refl _ _ | assumption | refine below_drewN ?_ _ | refine Below.drew ?_ | refine Below.setCell ?_ (by first | omega | (simp; done) | (simp; omega)) _ | refine Below.alloc ?_ (by first | omega | (simp; done) | (simp; omega)) _))).cell (p := ⟨w5.heap.size, 0, none⟩) lr).trans r0, ((show Below w14.heap.size w14 _ from by (repeat (first | exact Below.refl _ _ | assumption | refine below_drewN ?_ _ | refine Below.drew ?_ | refine Below.setCell ?_ (by first | omega | (simp; done) | (simp; omega)) _ | refine Below.alloc ?_ (by first | omega | (simp; done) | (simp; omega)) _))).cell (p := ⟨w5.heap.size, 1, none⟩) lr).trans r1,
        HK.out.keep (Kp.of_below (F := fun _ => False) (by (repeat (first | exact Below.refl _ _ | assumption | refine below_drewN ?_ _ | refine Below.drew ?_ | refine Below.setCell ?_ (by first | omega | (simp; done) | (simp; omega)) _ | refine Below.alloc ?_ (by first | omega | (simp; done) | (simp; omega)) _)))) (fun _ _ f => f), ⟨by omega, by omega, bx.1, bx.2, by decide, (HA13.out.keep (Kp.of_below (F := fun _ => False) (by (repeat (first | exact Below.refl _ _ | assumption | refine below_drewN ?_ _ | refine Below.drew ?_ | refine Below.setCell ?_ (by first | omega | (simp; done) | (simp; omega)) _ | refine Below.alloc ?_ (by first | omega | (simp; done) | (simp; omega)) _)))) (fun _ _ f => f)).mono (fun i hi => ⟨hi.1, by have := hi.2; omega⟩), (HS14.out.keep (Kp.of_below (F := fun _ => False) (by (repeat (first | exact Below.refl _ _ | assumption | refine below_drewN ?_ _ | refine Below.drew ?_ | refine Below.setCell ?_ (by first | omega | (simp; done) | (simp; omega)) _ | refine Below.alloc ?_ (by first | omega | (simp; done) | (simp; omega)) _)))) (fun _ _ f => f)).mono (fun i hi => ⟨hi.1, by have := hi.2; omega⟩)⟩,
        (Bw11.out.up (by omega)).below (by (repeat (first | exact Below.refl _ _ | assumption | refine below_drewN ?_ _ | refine Below.drew ?_ | refine Below.setCell ?_ (by first | omega | (simp; done) | (simp; omega)) _ | refine Below.alloc ?_ (by first | omega | (simp; done) | (simp; omega)) _))), (Bw10.out.up (by omega)).below (by (repeat (first | exact Below.refl _ _ | assumption | refine below_drewN ?_ _ | refine Below.drew ?_ | refine Below.setCell ?_ (by first | omega | (simp; done) | (simp; omega)) _ | refine Below.alloc ?_ (by first | omega | (simp; done) | (simp; omega)) _))), (Bw12.out.up (by omega)).below (by (repeat (first | exact Below.refl _ _ | assumption | refine below_drewN ?_ _ | refine Below.drew ?_ | refine Below.setCell ?_ (by first | omega | (simp; done) | (simp; omega)) _ | refine Below.alloc ?_ (by first | omega | (simp; done) | (simp; omega)) _))), (show Below w.heap.size w _ from (by repeat (first | exact Below.refl _ _ | exact (Hw14).out | refine below_drewN ?_ _ | refine Below.drew ?_ | refine Below.setCell ?_ (by first | omega | (simp; done) | (simp; omega)) _ | refine Below.alloc ?_ (by first | omega | (simp; done) | (simp; omega)) _)))⟩
  case rest =>
    obtain ⟨lo, hi, n0, b, r, K, kc, pf, pm, pn, pk, f, m, n, k, rfl, rfl, rfl, rfl, rfl, rfl, hh⟩ := hcut
    have HH := Lib.hid hh
    clear hh
    obtain ⟨a0, a1, a2, a3, a4, a5, a6, a7, a8, a9⟩ := HH.out.fb.cells
    have lp := HH.out.fb.p3
    go_wp2_with fail
    refine (postK lo hi n0 b pf ringK 2 [] kF f.A f.c f.S f.sc 103 [] _ kp1 kp1n HH.out.n0_ HH.out.bd HH.out.fb (HR.out _ HH.out.below)).mono ?_
    rintro e x1 ⟨rfl, hB, hk⟩
    have HH := Lib.hid (HH.out.post hB hk)
    clear hB hk lp a0 a1 a2 a3 a4 a5 a6 a7 a8 a9
    obtain ⟨a0, a1, a2, a3, a4, a5, a6, a7, a8, a9⟩ := HH.out.mb.cells
    have lp := HH.out.mb.p3
    go_wp2_with fail
    refine (postK lo hi n0 b pm ringK 2 [] kM m.A m.c m.S m.sc 105 [] _ kp2 kp2n HH.out.n0_ HH.out.bd HH.out.mb (HR.out _ HH.out.below)).mono ?_
    rintro e x2 ⟨rfl, hB, hk⟩
    have HH := Lib.hid (HH.out.post hB hk)
    clear hB hk lp a0 a1 a2 a3 a4 a5 a6 a7 a8 a9
    obtain ⟨a0, a1, a2, a3, a4, a5, a6, a7, a8, a9⟩ := HH.out.nb.cells
    have lp := HH.out.nb.p3
    go_wp2_with fail
    refine (postK lo hi n0 b pn ringK 2 [] kN n.A n.c n.S n.sc 0 [kN] _ kp3 kp3n HH.out.n0_ HH.out.bd HH.out.nb (HR.out _ HH.out.below)).mono ?_
    rintro e x3 ⟨rfl, hB, hk⟩
    have HH := Lib.hid (HH.out.post hB hk)
    clear hB hk lp a0 a1 a2 a3 a4 a5 a6 a7 a8 a9
    obtain ⟨a0, a1, a2, a3, a4, a5, a6, a7, a8, a9⟩ := HH.out.mb.cells
    have lp := HH.out.mb.p3
    go_wp2_with fail
    refine (postK lo hi n0 b pm ringK 2 [kN] kM m.A m.c m.S m.sc 0 [kN, kM] _ kp4 kp4n HH.out.n0_ HH.out.bd HH.out.mb (HR.out _ HH.out.below)).mono ?_
    rintro e x4 ⟨rfl, hB, hk⟩
    have HH := Lib.hid (HH.out.post hB hk)
    clear hB hk lp a0 a1 a2 a3 a4 a5 a6 a7 a8 a9
    obtain ⟨a0, a1, a2, a3, a4, a5, a6, a7, a8, a9⟩ := HH.out.kb.cells
    have lp := HH.out.kb.p3
    go_wp2_with fail
    refine (postK lo hi n0 b pk ringK 2 [kN, kM] kK k.A k.c k.S k.sc 107 [kN, kM] _ kp5 kp5n HH.out.n0_ HH.out.bd HH.out.kb (HR.out _ HH.out.below)).mono ?_
    rintro e x5 ⟨rfl, hB, hk⟩
    have HH := Lib.hid (HH.out.post hB hk)
    clear hB hk lp a0 a1 a2 a3 a4 a5 a6 a7 a8 a9
    go_wp2_with fail
    refine (Force_ (SK lo hi n0) b ringK 2 [kN, kM] ⟨#[115, 49]⟩ _ Al.zero 107 kforce (by decide) HH.out.bd).mono ?_
    rintro e x6 ⟨FA, fc, rfl, _, hb⟩
    have HH := Lib.hid (HH.out.after hb)
    clear hb
    have r0 := HH.out.r0
    have r1 := HH.out.r1
    have lr : r < x6.heap.size := by have := HH.out.rlt; have := HH.out.lh; have := HH.out.hn; have := HH.out.n0_; omega
    obtain ⟨a0, a1, a2, a3, a4, a5, a6, a7, a8, a9⟩ := HH.out.kb.cells
    obtain ⟨b0, b1, b2, b3, b4, b5, b6, b7, b8, b9⟩ := HH.out.mb.cells
    have lk := HH.out.kb.p3
    have lm := HH.out.mb.p3
    go_wp2_with fail
    refine (settle_ ringK 2 K kc [⟨kK, k.A, k.c, k.S, k.sc⟩, ⟨kM, m.A, m.c, m.S, m.sc⟩] (some ⟨x6.heap.size, 0, none⟩) 2 [⟨⟨#[115, 49]⟩, 2, 0, 0⟩] 0 _ (ksettle _ _ rfl rfl) ((HH.out.kr.sl.below (by repeat (first | exact Below.refl _ _ | assumption | refine below_drewN ?_ _ | refine Below.drew ?_ | refine Below.setCell ?_ (by first | omega | (simp; done) | (simp; omega)) _ | refine Below.alloc ?_ (by first | omega | (simp; done) | (simp; omega)) _))).more (by simp)) (HR.out _ (HH.out.below.trans (Below.mono (show Below x6.heap.size x6 _ from (by repeat (first | exact Below.refl _ _ | assumption | refine below_drewN ?_ _ | refine Below.drew ?_ | refine Below.setCell ?_ (by first | omega | (simp; done) | (simp; omega)) _ | refine Below.alloc ?_ (by first | omega | (simp; done) | (simp; omega)) _))) HH.out.below.size))) ((itBuild (w := x6) (n := 2) rfl rfl (by decide) (Below.refl _ _)).more (by simp)) (fun z hz => ?_) (by show 2 ≤ _; decide)).mono ?_
    · rcases List.mem_cons.1 hz with h | h
      · subst h; exact (HH.out.kb.below (by repeat (first | exact Below.refl _ _ | assumption | refine below_drewN ?_ _ | refine Below.drew ?_ | refine Below.setCell ?_ (by first | omega | (simp; done) | (simp; omega)) _ | refine Below.alloc ?_ (by first | omega | (simp; done) | (simp; omega)) _))).nin
      · obtain rfl := List.mem_singleton.1 h; exact (HH.out.mb.below (by repeat (first | exact Below.refl _ _ | assumption | refine below_drewN ?_ _ | refine Below.drew ?_ | refine Below.setCell ?_ (by first | omega | (simp; done) | (simp; omega)) _ | refine Below.alloc ?_ (by first | omega | (simp; done) | (simp; omega)) _))).nin
    rintro e x7 ⟨A1, c1, rfl, o1, hb⟩
    have HH := Lib.hid (HH.out.after ((show Below x6.heap.size x6 _ from (by repeat (first | exact Below.refl _ _ | assumption | refine below_drewN ?_ _ | refine Below.drew ?_ | refine Below.setCell ?_ (by first | omega | (simp; done) | (simp; omega)) _ | refine Below.alloc ?_ (by first | omega | (simp; done) | (simp; omega)) _))).trans (hb.mono (by simp))))
    have R1 := Lib.hid (Sl.of_own o1)
    clear hb o1 r0 r1 lr a0 a1 a2 a3 a4 a5 a6 a7 a8 a9 b0 b1 b2 b3 b4 b5 b6 b7 b8 b9 lk lm
    go_wp2_with fail
    refine (sameStandings_ [⟨⟨#[115, 49]⟩, 2, 0, 0⟩] A1 c1 (some ⟨x7.heap.size, 0, none⟩) 1 _ (R1.out.belowT (by repeat (first | exact Below.refl _ _ | assumption | refine below_drewN ?_ _ | refine Below.drew ?_ | refine Below.setCell ?_ (by first | omega | (simp; done) | (simp; omega)) _ | refine Below.alloc ?_ (by first | omega | (simp; done) | (simp; omega)) _))) ((stBuild (w := x7) (n := 1) rfl rfl (by decide) rfl rfl (Below.refl _ _)).more (by simp))).mono ?_
    rintro e x8 ⟨rfl, hb⟩
    have HH := Lib.hid (HH.out.after ((show Below x7.heap.size x7 _ from (by repeat (first | exact Below.refl _ _ | assumption | refine below_drewN ?_ _ | refine Below.drew ?_ | refine Below.setCell ?_ (by first | omega | (simp; done) | (simp; omega)) _ | refine Below.alloc ?_ (by first | omega | (simp; done) | (simp; omega)) _))).trans (hb.mono (by simp))))
    clear hb
    go_wp2_with fail
    refine (History_ (SK lo hi n0) b ringK 2 [kN, kM] ⟨#[115, 49]⟩ _ [fstA, fstW] khist kchn HH.out.bd).mono ?_
    rintro e x9 ⟨L, P, pc, rfl, hl, _, hb⟩
    have HH := Lib.hid (HH.out.after hb)
    have ql : ((L.length : Int) == 2) = true := by
      have := congrArg List.length hl
      simp at this
      simp [this]
    clear hb hl
    go_wp2_with fail
    refine (works_ _ (HR.out _ HH.out.below)).mono ?_
    rintro e x10 ⟨rfl, hb⟩
    have HX : Hid (Below w.heap.size w x10) := HH.out.below.trans (hb.mono HH.out.below.size)
    clear hb
    go_wp2_with fail
    go_ret
    exact ⟨rfl, HX.out⟩
end Go.Proofs.YtohfofecbdfkgaaGreatDoor
