/-
  The network and the telescope of the law's examples; celled, where nothing is wrong.
-/
import Derived.Test.YtpphnnijnnfngaaGreatDoorW14
import Derived.Test.YtpphnnijnnfngaaGreatDoorW23
namespace Go.Proofs.YtpphnnijnnfngaaGreatDoor
open Go.RowKit Al

theorem sl_new {W : World} {g sz n : Nat} {xs : List Value} {t : TypeId} {f : Nat × Nat} (h : W.heap[g]? = some (.cells xs.toArray t f)) (hl : xs.length = n * sz) (hm : n ≤ maxLen) : Sl W W.heap.size sz (some ⟨g, 0, none⟩) n n xs :=
  ⟨hl, Nat.le_refl _, hm, (fun h => by cases h), fun _ => ⟨g, 0, rfl, (Array.getElem?_eq_some_iff.1 h).1, fun j u hu => by simp [World.cell?, h, hu]⟩⟩
def twoL : List NSi := [⟨⟨#[101, 97, 115, 116]⟩, ⟨(10, 0, 0), (1, 0, 0), (0, 1, 0)⟩⟩, ⟨⟨#[110, 111, 114, 116, 104]⟩, ⟨(0, 10, 0), (0, 1, 0), (0, 0, 2)⟩⟩]
def TwoT (w : World) (e : Ending) (w' : World) : Prop := e = .returned (.slice (some ⟨w.heap.size, 0, none⟩) 2 2) ∧ Sl w' w'.heap.size 10 (some ⟨w.heap.size, 0, none⟩) 2 2 (nsCells twoL) ∧ Below w.heap.size w w'
set_option maxRecDepth 100000 in
theorem two_ (w : World) : Calls Tryz.prog 12 #[] w (TwoT w) := by
  go_enter Tryz.func12, Tryz.ntmps12
  go_wp2_with fail
  go_ret
  exact ⟨rfl, sl_new (heap_alloc_new w _) rfl (by unfold maxLen; omega), (by repeat (first | exact Below.refl _ _ | assumption | refine below_drewN ?_ _ | refine Below.drew ?_ | refine Below.setCell ?_ (by first | omega | (simp; done) | (simp; omega)) _ | refine Below.alloc ?_ (by first | omega | (simp; done) | (simp; omega)) _))⟩
def tubeS (A : Option Addr) : Scp := ⟨⟨#[116, 117, 98, 101]⟩, 1, 2, 0, 1, [(1, 0, 0)], A, 1⟩
def TubeT (w : World) (e : Ending) (w' : World) : Prop := e = .returned (.slice (some ⟨w.heap.size + 1, 0, none⟩) 1 1) ∧ Sl w' w'.heap.size 6 (some ⟨w.heap.size + 1, 0, none⟩) 1 1 (scsC [tubeS (some ⟨w.heap.size, 0, none⟩)]) ∧ Sl w' w'.heap.size 3 (some ⟨w.heap.size, 0, none⟩) 1 1 (zsC [(1, 0, 0)]) ∧ Below w.heap.size w w'
set_option maxRecDepth 100000 in
theorem tube_ (w : World) : Calls Tryz.prog 16 #[] w (TubeT w) := by
  go_enter Tryz.func16, Tryz.ntmps16
  go_wp2_with fail
  go_ret
  refine ⟨by simp, ?_, ?_, (by repeat (first | exact Below.refl _ _ | assumption | refine below_drewN ?_ _ | refine Below.drew ?_ | refine Below.setCell ?_ (by first | omega | (simp; done) | (simp; omega)) _ | refine Below.alloc ?_ (by first | omega | (simp; done) | (simp; omega)) _))⟩
  · have h := heap_alloc_new (w.alloc (.cells #[.int .i64 1, .int .i64 0, .int .i64 0] 30)) (.cells #[.string ⟨#[116, 117, 98, 101]⟩, .int .i64 1, .int .i64 2, .int .i64 0, .int .i64 1, .slice (some ⟨w.heap.size, 0, none⟩) 1 1] 104)
    rw [World.size_alloc] at h
    exact sl_new (xs := [.string ⟨#[116, 117, 98, 101]⟩, .int .i64 1, .int .i64 2, .int .i64 0, .int .i64 1, .slice (some ⟨w.heap.size, 0, none⟩) 1 1]) h rfl (by unfold maxLen; omega)
  · exact ((sl_new (xs := [.int .i64 1, .int .i64 0, .int .i64 0]) (n := 1) (sz := 3) (heap_alloc_new w (.cells #[.int .i64 1, .int .i64 0, .int .i64 0] 30)) rfl (by unfold maxLen; omega)).alloc (Nat.le_refl _) _).more (by simp)
def CelT (L : List NSi) (n c : Int) (w : World) (e : Ending) (w' : World) : Prop := ∃ B cc, e = .returned (.tuple #[.slice B L.length cc, v3 (dirV n c), .int .i64 0]) ∧ w'.ownsRow w.heap.size 44 9 (.slice B L.length cc) L.length (siCells (sites L)) ∧ Below w.heap.size w w'
set_option maxRecDepth 100000 in
set_option maxHeartbeats 4000000 in
theorem celled_ok (L : List NSi) (A : Option Addr) (c : Nat) (n cl : Int) (w : World) (hv : netG L n = 0) (hc : thereB n cl = true) (hL : Sl w w.heap.size 10 A L.length c (nsCells L)) (hm : ∀ x ∈ L, x.nm.size ≤ maxLen) :
    Calls Tryz.prog 8 #[.slice A L.length c, .int .i64 n, .int .i64 cl] w (CelT L n cl w) := by
  obtain ⟨h1, h2, h3, h4⟩ := there_yes hc
  obtain ⟨k1, k2, k3⟩ := six_in h1 h2
  have s1 : wrap64 (6 * n) = 6 * n := w64 (by omega) (by omega)
  have s2 : wrap64 (6 * n * n) = 6 * n * n := w64 (by omega) (by omega)
  have s3 : wrap64 (6 * n * n - 1) = 6 * n * n - 1 := w64 (by omega) (by omega)
  have b2 : inB cl 0 (6 * n * n - 1) = true := inB_true.2 ⟨h3, by omega⟩
  have HD := Lib.hid (fun W => direction_ n cl h1 h2 h3 h4 W)
  have HN := Lib.hid (fun W (hW : Below w.heap.size w W) => netted_ok L A c n W hv ((hL.below hW).more hW.size) hm)
  obtain ⟨d, hd⟩ : ∃ d, dirV n cl = d := ⟨_, rfl⟩
  have e : CelT L n cl w = fun e w' => ∃ B cc, e = .returned (.tuple #[.slice B L.length cc, v3 d, .int .i64 0]) ∧ w'.ownsRow w.heap.size 44 9 (.slice B L.length cc) L.length (siCells (sites L)) ∧ Below w.heap.size w w' := by funext e w'; unfold CelT; rw [hd]
  rw [hd] at HD
  rw [e]
  obtain ⟨x, y, z⟩ := d
  clear e hd h1 h2 h3 h4 k1 k2 k3 hv hc hL hm
  go_enter Tryz.func8, Tryz.ntmps8
  go_wp2_with fail
  refine (HN.out _ (by repeat (first | exact Below.refl _ _ | assumption | refine below_drewN ?_ _ | refine Below.drew ?_ | refine Below.setCell ?_ (by first | omega | (simp; done) | (simp; omega)) _ | refine Below.alloc ?_ (by first | omega | (simp; done) | (simp; omega)) _))).mono ?_
  rintro e w1 ⟨B, cc, rfl, hO, hb⟩
  have HO := Lib.hid (own_le (base' := w.heap.size + 1) hO (by simp))
  obtain ⟨hcw, hfw⟩ := bcell hb
  have HW1 : Hid (Below w.heap.size w w1) := (show Below w.heap.size w _ from (by repeat (first | exact Below.refl _ _ | assumption | refine below_drewN ?_ _ | refine Below.drew ?_ | refine Below.setCell ?_ (by first | omega | (simp; done) | (simp; omega)) _ | refine Below.alloc ?_ (by first | omega | (simp; done) | (simp; omega)) _))).trans (hb.mono (by first | omega | (simp; done) | (simp; omega)))
  have hz := hb.size
  simp at hz
  have hz1 : w.heap.size < w1.heap.size := by omega
  have P0 : Hid (w1.cell? ⟨w.heap.size, 0, none⟩ = some (.int .i64 0)) := by show _ = _; rw [hcw _ _ (by simp)]; simp [go_sem]
  have P1 : Hid (w1.cell? ⟨w.heap.size, 1, none⟩ = some (.int .i64 0)) := by show _ = _; rw [hcw _ _ (by simp)]; simp [go_sem]
  have P2 : Hid (w1.cell? ⟨w.heap.size, 2, none⟩ = some (.int .i64 0)) := by show _ = _; rw [hcw _ _ (by simp)]; simp [go_sem]
  have Q0 : Hid (w1.frozen? ⟨w.heap.size, 0, none⟩ = false) := by show _ = _; rw [hfw _ _ (by simp)]; simp [go_sem]
  have Q1 : Hid (w1.frozen? ⟨w.heap.size, 1, none⟩ = false) := by show _ = _; rw [hfw _ _ (by simp)]; simp [go_sem]
  have Q2 : Hid (w1.frozen? ⟨w.heap.size, 2, none⟩ = false) := by show _ = _; rw [hfw _ _ (by simp)]; simp [go_sem]
  clear hb hO hcw hfw
  go_wp2_with (go_at_call 24; refine (swithin_ _ _ _ _).mono ?_; rintro e w' ⟨rfl, rfl⟩; rw [b2])
  refine (HD.out _).mono ?_
  rintro e w2 ⟨rfl, hb⟩
  have HW2 := Lib.hid hb
  have HWW := Lib.hid (HW1.out.trans (hb.mono (by omega)))
  have p0 := (hb.cell (p := ⟨w.heap.size, 0, none⟩) hz1).trans P0.out
  have p1 := (hb.cell (p := ⟨w.heap.size, 1, none⟩) hz1).trans P1.out
  have p2 := (hb.cell (p := ⟨w.heap.size, 2, none⟩) hz1).trans P2.out
  obtain ⟨-, hfw⟩ := bcell hb
  have q0 := (hfw w.heap.size 0 hz1).trans Q0.out
  have q1 := (hfw w.heap.size 1 hz1).trans Q1.out
  have q2 := (hfw w.heap.size 2 hz1).trans Q2.out
  have R0 := Lib.hid p0
  have R1 := Lib.hid p1
  have R2 := Lib.hid p2
  have hz2 : w.heap.size < w2.heap.size := Nat.lt_of_lt_of_le hz1 hb.size
  clear hb hfw s1 s2 s3 b2
  go_wp2_with fail
  refine fin3 w.heap.size (.tuple #[.slice B L.length cc, v3 (x, y, z), .int .i64 0]) rfl (fun W e0 e1 e2 => by simp [results, Tryz.results8, go_sem, e0, e1, e2]) R0.out R1.out R2.out ⟨B, cc, rfl, ?_, (((HWW.out.setCell (by simp) _).setCell (by simp) _).setCell (by simp) _)⟩
  exact own_le ((own_below HO.out (Nat.le_refl _) HW2.out).kept grown_set3 (.inr fun e => by have := (own_lt HO.out e).1; omega)) (by omega)
end Go.Proofs.YtpphnnijnnfngaaGreatDoor

/-
  The walk of the sky's Ring, where nothing is wrong.
-/
namespace Go.Proofs.YtpphnnijnnfngaaGreatDoor
open Go.RowKit Al

set_option maxRecDepth 100000 in
set_option maxHeartbeats 4000000 in
theorem ringC_ (S : List Site) (B : Option Addr) (c' : Nat) (d : V3) (p q : Nat) (df sl : Int) (bs b1 b2 b3 b4 : Nat) (w : World) (hS : Sl w w.heap.size 9 B S.length c' (siCells S)) (hp : p < S.length) (hq : q < S.length)
    (l0 : bs < w.heap.size) (l1 : b1 < w.heap.size) (l2 : b2 < w.heap.size) (l3 : b3 < w.heap.size) (l4 : b4 < w.heap.size) (h0 : w.cell? ⟨bs, 0, none⟩ = some (.slice B S.length c')) (h1 : w.cell? ⟨b1, 0, none⟩ = some (.int .i64 (p : Int))) (h2 : w.cell? ⟨b2, 0, none⟩ = some (.int .i64 (q : Int)))
    (h3 : w.cell? ⟨b3, 0, none⟩ = some (.int .i64 df)) (h4 : w.cell? ⟨b4, 0, none⟩ = some (.int .i64 sl)) :
    Calls Tryz.prog 33 #[v3 d, .pointer (some ⟨bs, 0, none⟩), .pointer (some ⟨b1, 0, none⟩), .pointer (some ⟨b2, 0, none⟩), .pointer (some ⟨b3, 0, none⟩), .pointer (some ⟨b4, 0, none⟩)] w fun e w' => e = .returned (.bool (diffB S[p] S[q] d df sl)) ∧ Below w.heap.size w w' := by
  have hls : S.length ≤ maxLen := Nat.le_trans hS.cap hS.max
  have hlc := hS.cap
  unfold maxLen at hls
  obtain ⟨sb, so, rfl, hsb, m0, m1, m2, m3, m4, m5, m6, m7, m8⟩ := hS.si_at hp
  obtain ⟨sb', so', hA, -, n0, n1, n2, n3, n4, n5, n6, n7, n8⟩ := hS.si_at hq
  cases hA
  have HDI := Lib.hid (fun W => differs_ S[p] S[q] d df sl W)
  obtain ⟨b, hb⟩ : ∃ b, diffB S[p] S[q] d df sl = b := ⟨_, rfl⟩
  rw [hb] at HDI ⊢
  obtain ⟨sp, hsp⟩ : ∃ sp, S[p] = sp := ⟨_, rfl⟩
  obtain ⟨sq, hsq⟩ : ∃ sq, S[q] = sq := ⟨_, rfl⟩
  rw [hsp] at m0 m1 m2 m3 m4 m5 m6 m7 m8 HDI
  rw [hsq] at n0 n1 n2 n3 n4 n5 n6 n7 n8 HDI
  have v1 : (p : Int) < (S.length : Int) := by omega
  have v2 : (q : Int) < (S.length : Int) := by omega
  have v3' : (0 : Int) ≤ (p : Int) := by omega
  have v4 : (0 : Int) ≤ (q : Int) := by omega
  clear hsp hsq hb hS
  obtain ⟨d1, d2, d3⟩ := d
  go_enter Tryz.func33, Tryz.ntmps33
  go_wp2_with fail
  refine wp_region_bw2 (by kernel_rfl) (by kernel_rfl) (fun hbwc => ?_)
  repeat (go_big_quiet_step ((go_at_call 34; exact bwCall (HDI.out _))))
  refine wpQuiet_nil ?_
  clear hbwc
  intro w3 hb
  have HE : Hid (Below w.heap.size w w3) := (show Below w.heap.size w _ from (by repeat (first | exact Below.refl _ _ | assumption | refine below_drewN ?_ _ | refine Below.drew ?_ | refine Below.setCell ?_ (by first | omega | (simp; done) | (simp; omega)) _ | refine Below.alloc ?_ (by first | omega | (simp; done) | (simp; omega)) _))).trans (hb.mono (by simp))
  clear hb
  go_wp2_with fail
  go_ret
  exact ⟨rfl, HE.out⟩
set_option maxRecDepth 100000 in
set_option maxHeartbeats 8000000 in
theorem Ring_ok (L : List NSi) (A : Option Addr) (c : Nat) (n : Int) (p q : Nat) (df sl : Int) (w : World) (hg : netG L n = 0) (hpq : p ≠ q) (hp : p < L.length) (hq : q < L.length) (hd : inB df (-1099511627776) 1099511627776 = true) (hs : inB sl 0 131072 = true)
    (hL : Sl w w.heap.size 10 A L.length c (nsCells L)) (hm : ∀ x ∈ L, x.nm.size ≤ maxLen) (N : Nat) (hN : (N : Int) = 6 * (n * n)) :
    Calls Tryz.prog 13 #[.slice A L.length c, .int .i64 n, .int .i64 (p : Int), .int .i64 (q : Int), .int .i64 df, .int .i64 sl] w (FitOut 0 (pickL (fun d => diffB ((sites L).getD p noSite) ((sites L).getD q noSite) d df sl) (cellsL n N)) w) := by
  obtain ⟨hl2, hl6, hn1, hn8⟩ := netG_ok hg
  have HN := Lib.hid hN
  have HNT := Lib.hid (fun W (hW : Below w.heap.size w W) => netted_ok L A c n W hg ((hL.below hW).more hW.size) hm)
  have hsl : (sites L).length = L.length := by simp [sites]
  obtain ⟨l, hl⟩ : ∃ l, (fun N => pickL (fun d => diffB ((sites L).getD p noSite) ((sites L).getD q noSite) d df sl) (cellsL n N)) = l := ⟨_, rfl⟩
  have HLE : Hid (pickL (fun d => diffB ((sites L).getD p noSite) ((sites L).getD q noSite) d df sl) (cellsL n N) = l N) := by show _ = _; rw [← hl]
  rw [HLE.out]
  have e1 : decide ((p : Int) = (q : Int)) = false := decide_eq_false (by omega)
  have e2 : ((p : Int) == (q : Int)) = false := by simp; omega
  have b1 : inB (p : Int) 0 ((L.length : Int) - 1) = true := inB_true.2 ⟨by omega, by omega⟩
  have b2 : inB (q : Int) 0 ((L.length : Int) - 1) = true := inB_true.2 ⟨by omega, by omega⟩
  have s1 : IntKind.i64.wrap ((L.length : Int) - 1) = (L.length : Int) - 1 := IntWalk.i64_in _ (by omega)
  have HPL := Lib.hid hp
  have HQL := Lib.hid hq
  have HSL := Lib.hid hsl
  clear hg hN hL hm hl hsl hpq
  go_enter Tryz.func13, Tryz.ntmps13
  go_wp2_with fail
  refine (HNT.out _ (by repeat (first | exact Below.refl _ _ | assumption | refine below_drewN ?_ _ | refine Below.drew ?_ | refine Below.setCell ?_ (by first | omega | (simp; done) | (simp; omega)) _ | refine Below.alloc ?_ (by first | omega | (simp; done) | (simp; omega)) _))).mono ?_
  rintro e w1 ⟨S, cs, rfl, hO, hb⟩
  have HO := Lib.hid (own_le (base' := w.heap.size) hO (by simp; omega))
  have HW1 : Hid (Below w.heap.size w w1) := (show Below w.heap.size w _ from (by repeat (first | exact Below.refl _ _ | assumption | refine below_drewN ?_ _ | refine Below.drew ?_ | refine Below.setCell ?_ (by first | omega | (simp; done) | (simp; omega)) _ | refine Below.alloc ?_ (by first | omega | (simp; done) | (simp; omega)) _))).trans (hb.mono (by first | omega | (simp; done) | (simp; omega)))
  obtain ⟨hcw, hfw⟩ := bcell hb
  have hz := hb.size
  simp at hz
  have P0 : w1.cell? ⟨w.heap.size, 0, none⟩ = some (.int .i64 (p : Int)) := by rw [hcw _ _ (by simp; omega)]; simp [go_sem]
  have P1 : w1.cell? ⟨w.heap.size + 1, 0, none⟩ = some (.int .i64 (q : Int)) := by rw [hcw _ _ (by simp)]; simp [go_sem]
  have P2 : w1.cell? ⟨w.heap.size + 1 + 1, 0, none⟩ = some (.int .i64 df) := by rw [hcw _ _ (by simp)]; simp [go_sem]
  have P3 : w1.cell? ⟨w.heap.size + 1 + 1 + 1, 0, none⟩ = some (.int .i64 sl) := by rw [hcw _ _ (by simp)]; simp [go_sem]
  have z0 : w.heap.size < w1.heap.size := by omega
  have z1 : w.heap.size + 1 < w1.heap.size := by omega
  have z2 : w.heap.size + 1 + 1 < w1.heap.size := by omega
  have z3 : w.heap.size + 1 + 1 + 1 < w1.heap.size := by omega
  clear hb hO hcw hfw hz
  go_wp2_with (go_at_call 24; refine (swithin_ _ _ _ _).mono ?_; rintro e w' ⟨rfl, rfl⟩; first | rw [b1] | rw [b2] | rw [hd] | rw [hs])
  have G0 : Hid ((w1.alloc (.cells #[.slice S L.length cs] 39)).cell? ⟨w1.heap.size, 0, none⟩ = some (.slice S L.length cs)) := by show _ = _; simp [go_sem]
  have G1 := Lib.hid ((World.cell?_alloc_past (w := w1) (.cells #[.slice S L.length cs] 39) _ _ z0).trans P0)
  have G2 := Lib.hid ((World.cell?_alloc_past (w := w1) (.cells #[.slice S L.length cs] 39) _ _ z1).trans P1)
  have G3 := Lib.hid ((World.cell?_alloc_past (w := w1) (.cells #[.slice S L.length cs] 39) _ _ z2).trans P2)
  have G4 := Lib.hid ((World.cell?_alloc_past (w := w1) (.cells #[.slice S L.length cs] 39) _ _ z3).trans P3)
  have HSA : Hid (Sl (w1.alloc (.cells #[.slice S L.length cs] 39)) w1.heap.size 9 S L.length cs (siCells (sites L))) := (Sl.of_own HO.out).alloc (Nat.le_refl _) _
  have hwz : (w1.alloc (.cells #[.slice S L.length cs] 39)).heap.size = w1.heap.size + 1 := by simp
  have HWA : Hid (Below w.heap.size w (w1.alloc (.cells #[.slice S L.length cs] 39))) := HW1.out.alloc (by omega) _
  obtain ⟨wa, hwa⟩ : ∃ wa, w1.alloc (.cells #[.slice S L.length cs] 39) = wa := ⟨_, rfl⟩
  rw [hwa] at G0 G1 G2 G3 G4 HSA hwz HWA ⊢
  have hps : p < (sites L).length := by rw [HSL.out]; exact HPL.out
  have hqs : q < (sites L).length := by rw [HSL.out]; exact HQL.out
  refine (chosen_ n hn1 hn8 N HN.out 33 #[.pointer (some ⟨w1.heap.size, 0, none⟩), .pointer (some ⟨w.heap.size, 0, none⟩), .pointer (some ⟨w.heap.size + 1, 0, none⟩), .pointer (some ⟨w.heap.size + 1 + 1, 0, none⟩), .pointer (some ⟨w.heap.size + 1 + 1 + 1, 0, none⟩)] (fun d => diffB ((sites L).getD p noSite) ((sites L).getD q noSite) d df sl) wa (enters_of Tryz.func33 (by kernel_rfl) rfl) ?_).mono ?_
  · intro d W hW
    have hzw := hW.size
    have h := ringC_ (sites L) S cs d p q df sl w1.heap.size w.heap.size (w.heap.size + 1) (w.heap.size + 1 + 1) (w.heap.size + 1 + 1 + 1) W (by rw [HSL.out]; exact (HSA.out.below (hW.mono (by omega))).more (by omega)) hps hqs (by omega) (by omega) (by omega) (by omega) (by omega)
      (by rw [HSL.out]; exact (hW.cell (p := ⟨w1.heap.size, 0, none⟩) (by show w1.heap.size < _; omega)).trans G0.out) ((hW.cell (p := ⟨w.heap.size, 0, none⟩) (by show w.heap.size < _; omega)).trans G1.out) ((hW.cell (p := ⟨w.heap.size + 1, 0, none⟩) (by show w.heap.size + 1 < _; omega)).trans G2.out) ((hW.cell (p := ⟨w.heap.size + 1 + 1, 0, none⟩) (by show w.heap.size + 1 + 1 < _; omega)).trans G3.out) ((hW.cell (p := ⟨w.heap.size + 1 + 1 + 1, 0, none⟩) (by show w.heap.size + 1 + 1 + 1 < _; omega)).trans G4.out)
    rw [show (sites L).getD p noSite = (sites L)[p] by simp [List.getD_eq_getElem?_getD, hps], show (sites L).getD q noSite = (sites L)[q] by simp [List.getD_eq_getElem?_getD, hqs]]
    exact h
  · rintro e w3 ⟨s, rfl, ho, hb⟩
    have HO3 := Lib.hid ho
    have HB3 := Lib.hid hb
    have hzw : w.heap.size ≤ wa.heap.size := by omega
    clear ho hb hwa hwz
    go_wp2_with fail
    go_ret2
    exact ⟨s, rfl, by rw [← HLE.out]; exact own_le HO3.out hzw, HWA.out.trans (HB3.out.mono hzw)⟩
end Go.Proofs.YtpphnnijnnfngaaGreatDoor

/-
  The walk of the sky's Arrive, where nothing is wrong.
-/
namespace Go.Proofs.YtpphnnijnnfngaaGreatDoor
open Go.RowKit Al

/-- The search of a time of arrival. -/
def bsF (k d : Int) : Nat → Int → Int → Int
  | 0, lo, _ => lo
  | f + 1, lo, hi => if lo < hi then (if 0 ≤ aboveW k d (lo + (hi - lo + 1).tdiv 2) then bsF k d f (lo + (hi - lo + 1).tdiv 2) hi else bsF k d f lo (lo + (hi - lo + 1).tdiv 2 - 1)) else lo
def arrF (d : V3) (s : Site) : Int := bsF (wrap64 (-(dotW s.p d))) (dotW d d) 21 (-524288) 524288
theorem bsF_step {k d : Int} {f : Nat} {lo hi R : Int} (h : bsF k d f lo hi = R) (hw : hi - lo < (2 ^ f : Nat)) (hlt : lo < hi) :
    (0 ≤ aboveW k d (lo + (hi - lo + 1).tdiv 2) → ∃ f', bsF k d f' (lo + (hi - lo + 1).tdiv 2) hi = R ∧ hi - (lo + (hi - lo + 1).tdiv 2) < (2 ^ f' : Nat)) ∧ (¬ 0 ≤ aboveW k d (lo + (hi - lo + 1).tdiv 2) → ∃ f', bsF k d f' lo (lo + (hi - lo + 1).tdiv 2 - 1) = R ∧ lo + (hi - lo + 1).tdiv 2 - 1 - lo < (2 ^ f' : Nat)) := by
  cases f with
  | zero => simp at hw; omega
  | succ f =>
    rw [bsF, if_pos hlt] at h
    have hp : (2 ^ (f + 1) : Nat) = 2 * 2 ^ f := by rw [Nat.pow_succ]; omega
    rw [hp] at hw
    have ht : (hi - lo + 1).tdiv 2 = (hi - lo + 1) / 2 := Int.tdiv_eq_ediv_of_nonneg (by omega)
    rw [ht] at h ⊢
    obtain ⟨P, hP⟩ : ∃ P : Nat, 2 ^ f = P := ⟨_, rfl⟩
    rw [hP] at hw
    constructor
    · intro h0
      rw [if_pos h0] at h
      exact ⟨f, h, by rw [hP]; omega⟩
    · intro h0
      rw [if_neg h0] at h
      exact ⟨f, h, by rw [hP]; omega⟩
theorem bsF_end {k d : Int} {f : Nat} {lo hi R : Int} (h : bsF k d f lo hi = R) (hlt : ¬ lo < hi) : lo = R := by
  cases f with
  | zero => exact h
  | succ f => rw [bsF, if_neg hlt] at h; exact h
def ArRel (L : List Int) (n : Nat) (w : World) (o i : Value) (wr : World) : Prop := ∃ (k : Nat) (B : Option Addr) (c : Nat), k ≤ n ∧ i = .int .i64 k ∧ o = .slice B k c ∧ Hid (wr.ownsRow w.heap.size 3 1 (.slice B k c) k (ints (L.take k))) ∧ Hid (Below w.heap.size w wr)
def AbRel (k d R : Int) (w : World) (lo hi : Value) (wr : World) : Prop := ∃ (f : Nat) (a b : Int), lo = .int .i64 a ∧ hi = .int .i64 b ∧ -524288 ≤ a ∧ b ≤ 524288 ∧ a ≤ b ∧ Hid (bsF k d f a b = R) ∧ Hid (b - a < (2 ^ f : Nat)) ∧ Hid (Below w.heap.size w wr)
def IntsT0 (l : List Int) (w : World) (e : Ending) (w' : World) : Prop := ∃ B c, e = .returned (.tuple #[.slice B l.length c, .int .i64 0]) ∧ w'.ownsRow w.heap.size 3 1 (.slice B l.length c) l.length (ints l) ∧ Below w.heap.size w w'
set_option maxRecDepth 100000 in
set_option maxHeartbeats 8000000 in
theorem Arrive_ok (L : List NSi) (A : Option Addr) (c : Nat) (n cl : Int) (w : World) (hv : netG L n = 0) (hc : thereB n cl = true) (hL : Sl w w.heap.size 10 A L.length c (nsCells L)) (hm : ∀ x ∈ L, x.nm.size ≤ maxLen) :
    Calls Tryz.prog 11 #[.slice A L.length c, .int .i64 n, .int .i64 cl] w (IntsT0 ((sites L).map (arrF (dirV n cl))) w) := by
  obtain ⟨i0, hi, hz0, hz1, hz2⟩ := info_parts cInfo
  obtain ⟨hl2, hl6, hn1, hn8⟩ := netG_ok hv
  have HCE := Lib.hid (celled_ok L A c n cl w hv hc hL hm)
  have hsl : (sites L).length = L.length := by simp [sites]
  obtain ⟨S, hS⟩ : ∃ S, sites L = S := ⟨_, rfl⟩
  obtain ⟨d, hd⟩ : ∃ d, dirV n cl = d := ⟨_, rfl⟩
  obtain ⟨R, hR⟩ : ∃ R, S.map (arrF d) = R := ⟨_, rfl⟩
  have hRl : R.length = L.length := by rw [← hR, List.length_map, ← hS, hsl]
  have HRK : Hid (∀ k (h : k < S.length), R.take (k + 1) = R.take k ++ [arrF d S[k]]) := fun k h => by
    rw [← hR, List.take_succ_eq_append_getElem (by rw [List.length_map]; exact h)]
    simp
  have HRL := Lib.hid hRl
  rw [hS, hd, hR]
  have e : CelT L n cl w = fun e w' => ∃ B cc, e = .returned (.tuple #[.slice B L.length cc, v3 d, .int .i64 0]) ∧ w'.ownsRow w.heap.size 44 9 (.slice B L.length cc) L.length (siCells S) ∧ Below w.heap.size w w' := by funext e w'; unfold CelT; rw [hd, hS]
  rw [e] at HCE
  rw [hS] at hsl
  have HSL := Lib.hid hsl
  obtain ⟨dd, hdd⟩ : ∃ dd, dotW d d = dd := ⟨_, rfl⟩
  have HDD := Lib.hid hdd
  obtain ⟨x, y, z⟩ := d
  clear e hd hS hv hc hL hm hR hsl hRl hdd
  go_enter Tryz.func11, Tryz.ntmps11
  go_wp2_with fail
  refine HCE.out.mono ?_
  rintro e w1 ⟨B, cc, rfl, hO, hb⟩
  have HB1 := Lib.hid hb
  have HO1 := Lib.hid hO
  have hz1' := hb.size
  clear hb hO
  go_wp2_with fail
  have HVX : Hid (VecAt (w1.alloc (.cells #[.int .i64 x, .int .i64 y, .int .i64 z] 40)) w1.heap.size (x, y, z)) := ⟨by simp [go_sem], by simp [go_sem], by simp [go_sem], by simp⟩
  have HBA : Hid (Below w.heap.size w (w1.alloc (.cells #[.int .i64 x, .int .i64 y, .int .i64 z] 40))) := HB1.out.alloc hz1' _
  have HSA := Lib.hid (((Sl.of_own HO1.out).alloc (Nat.le_refl _) (.cells #[.int .i64 x, .int .i64 y, .int .i64 z] 40)).more (show _ ≤ (w1.alloc (.cells #[.int .i64 x, .int .i64 y, .int .i64 z] 40)).heap.size by simp))
  have hwz : (w1.alloc (.cells #[.int .i64 x, .int .i64 y, .int .i64 z] 40)).heap.size = w1.heap.size + 1 := by simp
  obtain ⟨wa, hwa⟩ : ∃ wa, w1.alloc (.cells #[.int .i64 x, .int .i64 y, .int .i64 z] 40) = wa := ⟨_, rfl⟩
  rw [hwa] at HVX HBA HSA hwz ⊢
  have HWZ := Lib.hid hwz
  have hvl : w1.heap.size < wa.heap.size := by omega
  have hwl : w.heap.size ≤ wa.heap.size := by omega
  clear hwa hwz
  obtain ⟨vb, hvb⟩ : ∃ b, w1.heap.size = b := ⟨_, rfl⟩
  rw [hvb] at HVX hvl ⊢
  clear hvb hz1'
  go_loopw [11, 30] (fun o i wr => ArRel R L.length wa o i wr) (fun _ i _ => L.length - (intOf i).toNat)
  case atStart => exact ⟨0, none, 0, Nat.zero_le _, rfl, rfl, World.ownsRow_nil _ _ _ _, Below.refl _ _⟩
  case round =>
    obtain ⟨k, D, dc, hk, rfl, rfl, HO, HB⟩ := hrel
    have hsz := HB.out.size
    by_cases hlt : k < L.length
    · have hks : k < S.length := by have := HSL.out; omega
      obtain ⟨sb, so, rfl, hsb, m0, m1, m2, m3, m4, m5, m6, m7, m8⟩ := (HSA.out.below HB.out).si_at hks
      have HRS := Lib.hid (HRK.out k hks)
      obtain ⟨s, hs⟩ : ∃ s, S[k] = s := ⟨_, rfl⟩
      rw [hs] at m0 m1 m2 m3 m4 m5 m6 m7 m8 HRS
      have hlt' : (k : Int) < (L.length : Int) := by omega
      obtain ⟨⟨p1, p2, p3⟩, ⟨q1, q2, q3⟩, ⟨r1, r2, r3⟩⟩ := s
      obtain ⟨T, hT⟩ : ∃ T, arrF (x, y, z) ⟨(p1, p2, p3), (q1, q2, q3), (r1, r2, r3)⟩ = T := ⟨_, rfl⟩
      rw [hT] at HRS
      obtain ⟨kk, hkk⟩ : ∃ kk, wrap64 (-(dotW (p1, p2, p3) (x, y, z))) = kk := ⟨_, rfl⟩
      have HKK := Lib.hid hkk
      have HT : Hid (bsF kk dd 21 (-524288) 524288 = T) := by show _ = _; rw [← hT, ← hkk, ← HDD.out]; rfl
      have hsb2 : sb < wr.heap.size := by omega
      clear hs hT hkk
      obtain ⟨wo, rfl⟩ : ∃ wo : World, wo = wr := ⟨_, rfl⟩
      go_wp2_with fail
      have HPX : Hid (VecAt (wo.alloc (.cells #[.int .i64 p1, .int .i64 p2, .int .i64 p3, .int .i64 q1, .int .i64 q2, .int .i64 q3, .int .i64 r1, .int .i64 r2, .int .i64 r3] 44)) wo.heap.size (p1, p2, p3)) := ⟨by simp [go_sem], by simp [go_sem], by simp [go_sem], by simp⟩
      have HBX : Hid (Below wo.heap.size wo (wo.alloc (.cells #[.int .i64 p1, .int .i64 p2, .int .i64 p3, .int .i64 q1, .int .i64 q2, .int .i64 q3, .int .i64 r1, .int .i64 r2, .int .i64 r3] 44))) := (Below.refl _ _).alloc (Nat.le_refl _) _
      have hxz : (wo.alloc (.cells #[.int .i64 p1, .int .i64 p2, .int .i64 p3, .int .i64 q1, .int .i64 q2, .int .i64 q3, .int .i64 r1, .int .i64 r2, .int .i64 r3] 44)).heap.size = wo.heap.size + 1 := by simp
      obtain ⟨wx, hwx⟩ : ∃ wx, wo.alloc (.cells #[.int .i64 p1, .int .i64 p2, .int .i64 p3, .int .i64 q1, .int .i64 q2, .int .i64 q3, .int .i64 r1, .int .i64 r2, .int .i64 r3] 44) = wx := ⟨_, rfl⟩
      rw [hwx] at HPX HBX hxz ⊢
      have HXZ := Lib.hid hxz
      clear hwx hxz m0 m1 m2 m3 m4 m5 m6 m7 m8
      obtain ⟨dp, hdp⟩ : ∃ dp, dotW (p1, p2, p3) (x, y, z) = dp := ⟨_, rfl⟩
      have HK9 : Hid (wrap64 (-dp) = kk) := by show _ = _; rw [← hdp]; exact HKK.out
      have HDP := Lib.hid hdp
      clear hdp
      have hxs : wo.heap.size < wx.heap.size := by have := HXZ.out; omega
      go_loopw [14, 15] (fun lo hi wr => AbRel kk dd T wx lo hi wr) (fun lo hi _ => (intOf hi - intOf lo).toNat)
      case atStart => exact ⟨21, _, _, rfl, rfl, by decide, by decide, by decide, HT.out, (by show _ < _; decide), Below.refl _ _⟩
      case round =>
        obtain ⟨f, a, b, rfl, rfl, ha, hb, hab, HBS, HFW, HB2⟩ := hrel
        have hsz2 := HB2.out.size
        by_cases hlt2 : a < b
        · have ST := Lib.hid (bsF_step HBS.out HFW.out hlt2)
          have hdv : (b - a + 1).tdiv 2 = (b - a + 1) / 2 := Int.tdiv_eq_ediv_of_nonneg (by omega)
          obtain ⟨g, hg⟩ : ∃ g, (b - a + 1).tdiv 2 = g := ⟨_, rfl⟩
          have hg1 : 1 ≤ g ∧ g ≤ b - a := by rw [← hg, hdv]; omega
          rw [hg] at ST
          obtain ⟨g1, g2⟩ := hg1
          have k1 : wrap64 g = g := w64 (by omega) (by omega)
          obtain ⟨m, hm⟩ : ∃ m, a + g = m := ⟨_, rfl⟩
          rw [hm] at ST
          have k2 : wrap64 (a + g) = m := by rw [hm]; exact w64 (by omega) (by omega)
          have hm1 : a < m ∧ m ≤ b := by omega
          obtain ⟨hm2, hm3⟩ := hm1
          obtain ⟨v, hv⟩ : ∃ v, aboveW kk dd m = v := ⟨_, rfl⟩
          rw [hv] at ST
          have k4 := HDP.out
          have k5 := HDD.out
          have k3 := HK9.out
          have VX := HVX.out.below ((HB.out.trans (HBX.out.mono hsz)).trans (HB2.out.mono (by omega)))
          have PX := HPX.out.below HB2.out
          have v0 := VX.c0
          have v1 := VX.c1
          have v2 := VX.c2
          have v3' := VX.lt
          have x0 := PX.c0
          have x1 := PX.c1
          have x2 := PX.c2
          have x3 := PX.lt
          simp only at v0 v1 v2 x0 x1 x2
          clear hdv VX PX
          go_wp2_with fail
          refine wp_region_bw2 (by kernel_rfl) (by kernel_rfl) (fun hbwc => ?_)
          repeat (go_big_quiet_step ((first | (go_at_call 27; exact bwCall (dotc _ _ _ _ _ _ _)) | (go_at_call 31; exact bwSame (above_ _ _ _ _)))))
          refine wpQuiet_nil ?_
          clear hbwc
          intro w3 hb
          have HB3 : Hid (Below wx.heap.size wx w3) := HB2.out.trans (((show Below wr.heap.size wr _ from (by repeat (first | exact Below.refl _ _ | assumption | refine below_drewN ?_ _ | refine Below.drew ?_ | refine Below.setCell ?_ (by first | omega | (simp; done) | (simp; omega)) _ | refine Below.alloc ?_ (by first | omega | (simp; done) | (simp; omega)) _))).trans (hb.mono (by first | omega | (simp; done) | (simp; omega)))).mono hsz2)
          clear hb k1 k2 k3 k4 k5 hv v0 v1 v2 x0 x1 x2
          by_cases h0 : 0 ≤ v
          · obtain ⟨f', e1, e2⟩ := ST.out.1 (by omega)
            have E1 := Lib.hid e1
            have E2 := Lib.hid e2
            clear e1 e2 hm
            go_wp2_with fail
            go_roundw
            case rel => exact ⟨f', _, _, rfl, rfl, by omega, by omega, by omega, E1.out, E2.out, HB3.out⟩
            case measure => simp [intOf]; omega
          · obtain ⟨f', e1, e2⟩ := ST.out.2 (by omega)
            have E1 := Lib.hid e1
            have E2 := Lib.hid e2
            clear e1 e2
            go_wp2_with fail
            go_roundw
            case rel => exact ⟨f', _, _, rfl, rfl, by omega, by omega, by omega, E1.out, E2.out, HB3.out⟩
            case measure => simp [intOf]; omega
        · obtain rfl : a = T := bsF_end HBS.out hlt2
          have HBW : Hid (Below wo.heap.size wo wr) := HBX.out.trans (HB2.out.mono (by have := HXZ.out; omega))
          have HOX := Lib.hid (own_below HO.out (Nat.le_refl _) (HBW.out.alloc HBW.out.size (.cells #[.int .i64 a] 3)))
          have hzo := HBW.out.size
          go_wp2_with (at_builtin; go_must (refine wpList_append_lies _ rfl _ _ 48 rfl wa.heap.size 3 i0 (.int .i64 0) 1 8 Tryz.underlying48 hi hz0 hz1 hz2 rfl (by decide) (.slice D k dc) k _ rfl HOX.out _ 1 1 [.int .i64 a] rfl rfl (World.news_of_block (heap_alloc_new wr _)) (by intro u hu; rw [List.mem_singleton.1 hu]; rfl) (by decide) (by unfold maxLen; omega) (by omega) (by simp; omega) _ rfl ?_); intro g cap w6 hown6 hg6 hat6 hlt6; have z6 := hg6.size; (try simp at z6))
          go_roundw
          case rel =>
            refine ⟨k + 1, some ⟨g, 0, none⟩, cap, by omega, by go_num, rfl, Lib.hid ?_, Lib.hid (((HB.out.trans (HBW.out.mono hsz)).alloc (by omega) _).grown hg6 (by simp; omega) (fun g h => (own_lt HO.out h).1))⟩
            rw [HRS.out]
            have e : ints (R.take k ++ [a]) = ints (R.take k) ++ [.int .i64 a] := by simp [ints]
            rw [e]
            exact hown6
          case measure => simp [intOf]; omega
    · obtain rfl : k = L.length := by omega
      go_wp2_with fail
      go_ret2
      refine ⟨D, dc, by rw [HRL.out]; rfl, ?_, HBA.out.trans (HB.out.mono hwl)⟩
      have := own_le HO.out hwl
      rw [List.take_of_length_le (by have := HRL.out; omega)] at this
      rw [HRL.out]
      exact this
end Go.Proofs.YtpphnnijnnfngaaGreatDoor
