/-
  Plain facts of TopPublished: the office's signatures hold; what is posted, and how it settles.
-/
import Derived.Test.YtmpbhngjkbidcaaGreatDoorW49
import Derived.Test.YtmpbhngjkbidcaaGreatDoorW48
import Derived.Test.YtmpbhngjkbidcaaGreatDoorW25
import Derived.Test.YtmpbhngjkbidcaaGreatDoorW39
import Derived.Test.YtmpbhngjkbidcaaGreatDoorW26
namespace Go.Proofs.YtmpbhngjkbidcaaGreatDoor
open Go.RowKit Al

/-- The office's signatures of a digest. -/
def sgO (d : Int) : List (Int × Int) := [(0, pw d 3643 10403), (1, pw d 1145 11663)]
/-- A notice, signed by the office. -/
def rO (a : Alr) : Ntc := ⟨a, sgO (digA a)⟩
theorem rO_ok {a : Alr} (h : okA a = true) : noticeE offK 2 (rO a) = 0 := by
  have hd := (digA_bd a).1
  refine noticeE_ok h ?_ (by show ¬ ((2 : Nat) : Int) < 2; decide)
  show sigsOk offK (digA a) (-1) [(0, pw (digA a) 3643 10403), (1, pw (digA a) 1145 11663)] = true
  have h1 := sig_own okey1 hd
  have h2 := sig_own okey2 hd
  rw [osec1] at h1
  rw [osec2] at h2
  rw [show (101 : Int) * 103 = 10403 from rfl] at h1
  rw [show (107 : Int) * 109 = 11663 from rfl] at h2
  simp only [sigsOk, sigK, offK]
  simp [h1, h2]
def s1 : ByteArray := ⟨#[115, 49]⟩
/-- The alerts that the law makes. -/
def tA (n o g : Int) (l : List Int) : Alr := ⟨s1, 1, 10, n, o, g, l, false, 0⟩
def tW (a : Alr) : Alr := ⟨a.ev, 2, 12, a.n, a.of, a.grid, [], true, digA a⟩
def tL (n o g : Int) (l : List Int) : Alr := ⟨s1, 3, 20, n, o, g, l, false, 0⟩
theorem s1_name : isName s1.data.toList = true := by decide
theorem tA_ok {n o g : Int} {l : List Int} (h : NightOk n o g l) : okA (tA n o g l) = true := by
  obtain ⟨a, b, c, d, e, f, r⟩ := h
  unfold okA tA manyCells
  simp only [Bool.and_eq_true, inB_true, decide_eq_true_eq]
  refine ⟨⟨⟨⟨⟨⟨⟨⟨⟨d, e⟩, s1_name⟩, by omega⟩, by omega⟩, c⟩, a, b⟩, ?_⟩, r⟩, by simp⟩
  cases l with
  | nil => exact absurd rfl f
  | cons x r => rfl
theorem tL_ok {n o g : Int} {l : List Int} (h : NightOk n o g l) : okA (tL n o g l) = true := by
  obtain ⟨a, b, c, d, e, f, r⟩ := h
  unfold okA tL manyCells
  simp only [Bool.and_eq_true, inB_true, decide_eq_true_eq]
  refine ⟨⟨⟨⟨⟨⟨⟨⟨⟨d, e⟩, s1_name⟩, by omega⟩, by omega⟩, c⟩, a, b⟩, ?_⟩, r⟩, by rw [if_neg (by decide)]; decide⟩
  cases l with
  | nil => exact absurd rfl f
  | cons x r => rfl
theorem tW_ok {c : Alr} (h : okA c = true) : okA (tW c) = true := by
  have hd := digA_bd c
  unfold okA manyCells at h
  unfold okA tW manyCells
  simp only [Bool.and_eq_true, inB_true, decide_eq_true_eq] at h ⊢
  obtain ⟨⟨⟨⟨⟨⟨⟨⟨a1, a2⟩, a3⟩, a4⟩, a5⟩, a6⟩, a7⟩, a8⟩, a9⟩ := h
  refine ⟨⟨⟨⟨⟨⟨⟨⟨a1, a2⟩, by omega⟩, by omega⟩, a5⟩, a6⟩, rfl⟩, rfl⟩, ?_⟩
  rw [if_neg (by decide)]
  exact inB_true.2 hd
theorem tDraft_no (n o g : Int) (l : List Int) : draftR s1 10 n o (n - 1) g l = (Al.zero, 4) := by unfold draftR; rw [if_pos (by omega)]
theorem tDraft {n o lim g : Int} {l : List Int} (hl : n ≤ lim) (hk : okA (tA n o g l) = true) : draftR s1 10 n o lim g l = (tA n o g l, 0) := by
  unfold draftR
  rw [if_neg (by omega)]
  show (draftA (tA n o g l), errA (okA (tA n o g l)) 101) = _
  rw [draftA_t hk, hk]
  rfl
theorem tWith {n o g : Int} {l : List Int} (hk : okA (tA n o g l) = true) : witR (tA n o g l) 12 = (tW (tA n o g l), 0) := by
  unfold witR
  rw [if_pos (nextE_0 hk rfl (by show ¬ (12 : Int) < 10; omega))]
  have e : witD (tA n o g l) 12 = tW (tA n o g l) := rfl
  rw [e, draftA_t (tW_ok hk), tW_ok hk]
  rfl
theorem lastO (ns : List Ntc) {a : Alr} {s : List UInt8} (h : a.ev.data.toList = s) : lastOf (ns ++ [rO a]) s = some a := by
  rw [lastOf_snoc]
  exact if_pos h
theorem tPost1 {n o g : Int} {l : List Int} (hk : okA (tA n o g l) = true) : postE offK 2 [] (rO (tA n o g l)) = 0 := by
  rw [postE_t (rO_ok hk), chain_none rfl]
  exact chX_6 rfl rfl rfl (by show ¬ (10 : Int) < 0; omega) (by show ¬ 256 ≤ 0; omega)
theorem tPost2 {n o g : Int} {l : List Int} (hk : okA (tA n o g l) = true) : postE offK 2 ([] ++ [rO (tA n o g l)]) (rO (tW (tA n o g l))) = 0 := by
  rw [postE_t (rO_ok (tW_ok hk)), chain_some (x := tA n o g l) (lastO [] rfl)]
  exact chX_6 rfl rfl rfl (by show ¬ (12 : Int) < 10; omega) (by simp)
theorem tPost3 {n o g : Int} {l : List Int} (hl : okA (tL n o g l) = true) : postE offK 2 (([] ++ [rO (tA n o g l)]) ++ [rO (tW (tA n o g l))]) (rO (tL n o g l)) = 107 := by
  rw [postE_t (rO_ok hl), chain_some (x := tW (tA n o g l)) (lastO _ rfl)]
  exact chX_1 rfl
theorem tForce (n o g : Int) (l : List Int) : forceR (([] ++ [rO (tA n o g l)]) ++ [rO (tW (tA n o g l))]) s1.data.toList = (Al.zero, 107) := by
  unfold forceR
  rw [lastO _ (a := tW (tA n o g l)) (s := s1.data.toList) rfl]
  rfl
theorem off_many (len : Nat) (h : len ≤ 64) : manyE offK 2 len = 0 := by
  unfold manyE
  rw [off_ok, if_pos rfl, if_neg (by omega)]
theorem evW_one (L : List It) (h : ∀ x ∈ L, x.n.a.ev = s1) (hn : L ≠ []) : evW L = [s1] := by
  have hin : wordIn s1 [s1] = true := by simp [wordIn]
  have hgo : ∀ M : List It, (∀ x ∈ M, x.n.a.ev = s1) → M.foldl (fun out x => if wordIn x.n.a.ev out then out else insW x.n.a.ev out) [s1] = [s1] := by
    intro M
    induction M with
    | nil => intro _; rfl
    | cons x M ih =>
      intro hM
      rw [List.foldl_cons, hM x (by simp), hin, if_pos rfl]
      exact ih (fun y hy => hM y (by simp [hy]))
  cases L with
  | nil => exact absurd rfl hn
  | cons x M =>
    unfold evW
    rw [List.foldl_cons, h x (by simp), show wordIn s1 [] = false from rfl, if_neg (by decide), show insW s1 [] = [s1] from rfl]
    exact hgo M (fun y hy => h y (by simp [hy]))
/-- Notices of one event, all valid, a withdrawal among them. -/
theorem tSettle (L : List It) (hlen : L.length ≤ 64) (hok : ∀ x ∈ L, noticeE offK 2 x.n = 0) (hev : ∀ x ∈ L, x.n.a.ev = s1) (hw : ∃ x ∈ L, x.n.a.wd = true) : settleR offK 2 L = ([⟨s1, 2, 0, 0⟩], 0) := by
  have hv : validN offK 2 L = L := List.filter_eq_self.2 (fun x hx => by rw [hok x hx]; rfl)
  obtain ⟨y, hy, hyw⟩ := hw
  have hf : L.filter (ofEv s1) = L := List.filter_eq_self.2 (fun x hx => by unfold ofEv; rw [hev x hx]; simp)
  unfold settleR settleS
  rw [if_pos (off_many _ hlen), hv, evW_one L hev (List.ne_nil_of_mem hy)]
  simp only [List.map_cons, List.map_nil, hf]
  unfold standS
  rw [if_pos (List.any_eq_true.2 ⟨y, hy, hyw⟩)]
theorem fst_draft : draftR s1 5 1 20 1 1 [0, 3] = (fstA, 0) := by
  unfold draftR
  rw [if_neg (by decide)]
  show (draftA fstA, errA (okA fstA) 101) = _
  rw [draftA_t fst_ok, fst_ok]
  rfl
theorem fst_postO : postE offK 2 [] (rO fstA) = 0 := by
  rw [postE_t (rO_ok fst_ok), chain_none rfl]
  exact chX_6 rfl rfl rfl (by show ¬ (5 : Int) < 0; omega) (by show ¬ 256 ≤ 0; omega)
theorem fst_histO : hist ([] ++ [rO fstA]) s1.data.toList = [fstA] := rfl
theorem fst_chn : Chn [fstA] := Chn.one fst_ok rfl
end Go.Proofs.YtmpbhngjkbidcaaGreatDoor

/-
  The walk of TopPublished's helper: posted.
-/
namespace Go.Proofs.YtmpbhngjkbidcaaGreatDoor
open Go.RowKit Al

set_option maxRecDepth 100000 in
set_option maxHeartbeats 4000000 in
theorem posted_ (w : World) (hr : Rdy w) : Calls Tryz.prog 18 #[] w fun e w' => e = .returned (.bool true) ∧ Below w.heap.size w w' := by
  have HR := Lib.hid hr
  clear hr
  go_enter Tryz.func18, Tryz.ntmps18
  go_wp2_with fail
  refine (office_ _).mono ?_
  rintro e w1 ⟨K, kc, rfl, hK, hb⟩
  have HK1 := Lib.hid (Sl.of_own hK)
  have H1 : Hid (Below w.heap.size w w1) := hb
  have hz1 := hb.size
  clear hK hb
  go_wp2_with fail
  refine (newBoard_t offK 2 K kc _ (((HK1.out.alloc (Nat.le_refl _) _).alloc (by simp) _).more (by first | omega | (simp; done) | (simp; omega))) off_ok).mono ?_
  rintro e w2 ⟨bb, rfl, hbb, hbd, hb⟩
  have hz2 := hb.size
  simp at hz2 hbb
  have HBD := Lib.hid hbd
  have H2 : Hid (Below w.heap.size w w2) := H1.out.trans ((show Below w.heap.size w1 _ from (by repeat (first | exact Below.refl _ _ | assumption | refine below_drewN ?_ _ | refine Below.drew ?_ | refine Below.setCell ?_ (by first | omega | (simp; done) | (simp; omega)) _ | refine Below.alloc ?_ (by first | omega | (simp; done) | (simp; omega)) _))).trans (hb.mono (by first | omega | (simp; done) | (simp; omega))))
  clear hbd hb
  go_wp2_with fail
  refine (Draft_is s1 5 0 0 0 1 20 1 1 [0, 3] (some ⟨w2.heap.size, 0, none⟩) 2 fstA 0 _ fst_draft (by decide) ((Sl.of_own (World.ownsRow_lit (base := 0) (e := 3) (size := 1) w2 #[.int .i64 0, .int .i64 3] 2 (Nat.zero_le _) (by decide) rfl)).more (Nat.le_refl _))).mono ?_
  rintro e w3 ⟨A3, c3, rfl, dr, hb⟩
  have H23 : Hid (Below w2.heap.size w2 w3) := (show Below w2.heap.size w2 _ from (by repeat (first | exact Below.refl _ _ | assumption | refine below_drewN ?_ _ | refine Below.drew ?_ | refine Below.setCell ?_ (by first | omega | (simp; done) | (simp; omega)) _ | refine Below.alloc ?_ (by first | omega | (simp; done) | (simp; omega)) _))).trans (hb.mono (by simp))
  have HA3 := Lib.hid (own_in (by decide) dr)
  have HD3 := Lib.hid (SlR.of_own dr (R := fun i => w2.heap.size < i ∧ i < w3.heap.size) (fun i h1 h2 => ⟨by simp at h1; omega, h2⟩))
  have hz3 := H23.out.size
  clear hb dr
  go_wp2_with fail
  refine (topsigned_ fstA A3 c3 _ (HA3.out.below (by repeat (first | exact Below.refl _ _ | assumption | refine below_drewN ?_ _ | refine Below.drew ?_ | refine Below.setCell ?_ (by first | omega | (simp; done) | (simp; omega)) _ | refine Below.alloc ?_ (by first | omega | (simp; done) | (simp; omega)) _))) (HR.out.below (H2.out.trans ((H23.out.trans (show Below w2.heap.size w3 _ from (by repeat (first | exact Below.refl _ _ | assumption | refine below_drewN ?_ _ | refine Below.drew ?_ | refine Below.setCell ?_ (by first | omega | (simp; done) | (simp; omega)) _ | refine Below.alloc ?_ (by first | omega | (simp; done) | (simp; omega)) _)))).mono H2.out.size))) fst_ok).mono ?_
  rintro e w4 ⟨S4, sc4, rfl, hS, hb⟩
  have H34 : Hid (Below w3.heap.size w3 w4) := (show Below w3.heap.size w3 _ from (by repeat (first | exact Below.refl _ _ | assumption | refine below_drewN ?_ _ | refine Below.drew ?_ | refine Below.setCell ?_ (by first | omega | (simp; done) | (simp; omega)) _ | refine Below.alloc ?_ (by first | omega | (simp; done) | (simp; omega)) _))).trans (hb.mono (by simp))
  have HS4 := Lib.hid (Sl.of_own hS)
  have hz4 := H34.out.size
  have H24 : Hid (Below w2.heap.size w2 w4) := H23.out.trans (H34.out.mono hz3)
  have H4 : Hid (Below w.heap.size w w4) := H2.out.trans (H24.out.mono H2.out.size)
  clear hb hS
  go_wp2_with fail
  refine (Post_ _ bb offK 2 [] (rO fstA) A3 c3 S4 sc4 _ ((HBD.out.cut).below (H24.out.trans (by repeat (first | exact Below.refl _ _ | assumption | refine below_drewN ?_ _ | refine Below.drew ?_ | refine Below.setCell ?_ (by first | omega | (simp; done) | (simp; omega)) _ | refine Below.alloc ?_ (by first | omega | (simp; done) | (simp; omega)) _)))) ⟨(HA3.out.below H34.out).below (by repeat (first | exact Below.refl _ _ | assumption | refine below_drewN ?_ _ | refine Below.drew ?_ | refine Below.setCell ?_ (by first | omega | (simp; done) | (simp; omega)) _ | refine Below.alloc ?_ (by first | omega | (simp; done) | (simp; omega)) _)), (HS4.out.below (by repeat (first | exact Below.refl _ _ | assumption | refine below_drewN ?_ _ | refine Below.drew ?_ | refine Below.setCell ?_ (by first | omega | (simp; done) | (simp; omega)) _ | refine Below.alloc ?_ (by first | omega | (simp; done) | (simp; omega)) _))).more (by simp)⟩ (HR.out.below (H4.out.trans (by repeat (first | exact Below.refl _ _ | assumption | refine below_drewN ?_ _ | refine Below.drew ?_ | refine Below.setCell ?_ (by first | omega | (simp; done) | (simp; omega)) _ | refine Below.alloc ?_ (by first | omega | (simp; done) | (simp; omega)) _)))) ((HD3.out.keep (F := fun _ => False) (Kp.of_below (H34.out.trans (by repeat (first | exact Below.refl _ _ | assumption | refine below_drewN ?_ _ | refine Below.drew ?_ | refine Below.setCell ?_ (by first | omega | (simp; done) | (simp; omega)) _ | refine Below.alloc ?_ (by first | omega | (simp; done) | (simp; omega)) _)))) (fun _ _ f => f)).mono (fun i hi hs => by have := hs.2; omega))).mono ?_
  rintro e w5 ⟨rfl, hbd, hkp⟩
  rw [fst_postO]
  rw [postN_0 fst_postO] at hbd
  have HBD5 := Lib.hid hbd
  have h12 := H1.out.size
  have H5 : Hid (Below w.heap.size w w5) := (H4.out.trans (by repeat (first | exact Below.refl _ _ | assumption | refine below_drewN ?_ _ | refine Below.drew ?_ | refine Below.setCell ?_ (by first | omega | (simp; done) | (simp; omega)) _ | refine Below.alloc ?_ (by first | omega | (simp; done) | (simp; omega)) _))).trans (hkp.below (Nat.le_trans H4.out.size (by simp)) (fun i hi => by have := hi.1; simp at this; omega))
  clear hbd hkp
  go_wp2_with fail
  refine (History_ _ bb offK 2 ([] ++ [rO fstA]) s1 _ [fstA] fst_histO fst_chn HBD5.out).mono ?_
  rintro e w6 ⟨M, P, pc, rfl, hM, -, hb⟩
  obtain ⟨x, rfl⟩ : ∃ x, M = [x] := by
    have h1 := congrArg List.length hM
    rw [List.length_map] at h1
    exact List.length_eq_one_iff.1 h1
  have H6 : Hid (Below w.heap.size w w6) := H5.out.trans (hb.mono H5.out.size)
  clear hb hM
  go_wp2_with fail
  go_ret
  exact ⟨rfl, H6.out⟩
end Go.Proofs.YtmpbhngjkbidcaaGreatDoor

/-
  Notices in boxes, beside a board.
-/
namespace Go.Proofs.YtmpbhngjkbidcaaGreatDoor
open Go.RowKit Al

/-- A notice in a box, its signatures in blocks from hi to n0. -/
structure Nn (w : World) (hi n0 p : Nat) (n : Ntc) (A : Option Addr) (c : Nat) (S : Option Addr) (sc : Nat) : Prop where
  p1 : hi ≤ p
  p2 : p < n0
  p3 : p < w.heap.size
  cs : ∀ j u, (ntL n.a A c S n.sg.length sc)[j]? = some u → w.cell? ⟨p, j, none⟩ = some u
  sl : SlR w (fun i => hi ≤ i ∧ i < n0) 2 S n.sg.length sc (keyCells n.sg)
theorem Nn.below {w w' : World} {hi n0 p : Nat} {n : Ntc} {A : Option Addr} {c : Nat} {S : Option Addr} {sc : Nat} (h : Nn w hi n0 p n A c S sc) (hb : Below w.heap.size w w') : Nn w' hi n0 p n A c S sc :=
  ⟨h.p1, h.p2, Nat.lt_of_lt_of_le h.p3 hb.size, fun j u hu => (hb.cell (p := ⟨p, j, none⟩) h.p3).trans (h.cs j u hu), h.sl.keep (Kp.of_below (F := fun _ => False) hb) (fun _ _ f => f)⟩
theorem Nn.keep {w w' : World} {hi n0 p : Nat} {n : Ntc} {A : Option Addr} {c : Nat} {S : Option Addr} {sc : Nat} (h : Nn w hi n0 p n A c S sc) {T : Nat → Prop} (k : Kp T w w') (hT : ∀ i, hi ≤ i → i < n0 → ¬ T i) : Nn w' hi n0 p n A c S sc :=
  ⟨h.p1, h.p2, Nat.lt_of_lt_of_le h.p3 k.size, fun j u hu => (k.cell (p := ⟨p, j, none⟩) h.p3 (hT p h.p1 h.p2)).trans (h.cs j u hu), h.sl.keep k (fun i hi => hT i hi.1 hi.2)⟩
theorem Nn.cells {w : World} {hi n0 p : Nat} {n : Ntc} {A : Option Addr} {c : Nat} {S : Option Addr} {sc : Nat} (h : Nn w hi n0 p n A c S sc) :
    w.cell? ⟨p, 0, none⟩ = some (.string n.a.ev) ∧ w.cell? ⟨p, 1, none⟩ = some (.int .i64 n.a.ver) ∧ w.cell? ⟨p, 2, none⟩ = some (.int .i64 n.a.tm) ∧ w.cell? ⟨p, 3, none⟩ = some (.int .i64 n.a.n) ∧ w.cell? ⟨p, 4, none⟩ = some (.int .i64 n.a.of) ∧ w.cell? ⟨p, 5, none⟩ = some (.int .i64 n.a.grid) ∧ w.cell? ⟨p, 6, none⟩ = some (.slice A n.a.cells.length c) ∧ w.cell? ⟨p, 7, none⟩ = some (.bool n.a.wd) ∧ w.cell? ⟨p, 8, none⟩ = some (.int .i64 n.a.before) ∧ w.cell? ⟨p, 9, none⟩ = some (.slice S n.sg.length sc) :=
  ⟨h.cs 0 _ rfl, h.cs 1 _ rfl, h.cs 2 _ rfl, h.cs 3 _ rfl, h.cs 4 _ rfl, h.cs 5 _ rfl, h.cs 6 _ rfl, h.cs 7 _ rfl, h.cs 8 _ rfl, h.cs 9 _ rfl⟩
/-- What a cut hands on: a notice in a box of its own, above the world w6. -/
def NiN (w6 : World) (n : Ntc) (A : Option Addr) (c : Nat) (s12 s13 : Value) (wx : World) : Prop := ∃ (W : World) (p : Nat) (S : Option Addr) (sc : Nat), W = wx ∧ s12 = .pointer (some ⟨p, 0, none⟩) ∧ s13 = .bool true ∧ Nn wx w6.heap.size wx.heap.size p n A c S sc ∧ Below w6.heap.size w6 wx
theorem niN_1 {w6 wm : World} {k : Nat} {n : Ntc} {A : Option Addr} {c : Nat} {S : Option Addr} {sc : Nat} (hd : wm.ownsRow k 123 2 (.slice S n.sg.length sc) n.sg.length (keyCells n.sg)) (hn : w6.heap.size ≤ k) (hb : Below w6.heap.size w6 wm) :
    NiN w6 n A c (.pointer (some ⟨wm.heap.size, 0, none⟩)) (.bool true) (wm.alloc (.cells (ntL n.a A c S n.sg.length sc).toArray 72)) := by
  have ha : Below wm.heap.size wm (wm.alloc (.cells (ntL n.a A c S n.sg.length sc).toArray 72)) := (Below.refl _ _).alloc (Nat.le_refl _) _
  refine ⟨_, _, S, sc, rfl, rfl, rfl, ⟨hb.size, by simp, by simp, fun j u hu => ?_, ((SlR.of_own hd (R := fun i => w6.heap.size ≤ i ∧ i < wm.heap.size) (fun i h1 h2 => ⟨by omega, h2⟩)).keep (Kp.of_below (F := fun _ => False) ha) (fun _ _ f => f)).mono (fun i h => ⟨h.1, by simp; omega⟩)⟩, hb.alloc hb.size _⟩
  rw [World.cell?_alloc_new, ← Array.getElem?_toList]
  exact hu
end Go.Proofs.YtmpbhngjkbidcaaGreatDoor
