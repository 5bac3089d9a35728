/-
  The sky's watch in memory; the walk of its sees.
-/
import Derived.Test.YtpphnnijnnfngaaGreatDoorW18
import Derived.Test.YtpphnnijnnfngaaGreatDoorW16
namespace Go.Proofs.YtpphnnijnnfngaaGreatDoor
open Go.RowKit Al

theorem QapK.lookOk {α : Type} {kt : TypeId} {mk : α → Lit} {w : World} {mb n c : Nat} {f : α → Option Value} (h : QapK kt mk w mb n c f) {t e : TypeId} (K : Maps.Keyed Tryz.prog kt) (ht : Tryz.prog.underlying t = some (.map kt e)) {z : Value} (hz : (zeroValue e).run Tryz.prog w = .ok z w) {key : Value} {s : α} (hkey : keyOf Tryz.prog kt key = some (mk s)) :
    (Instr.lookup t (.map (some mb)) key true).run Tryz.prog w = .ok (.tuple #[(f s).getD z, .bool (f s).isSome]) w := by
  obtain ⟨D, h1, _, h2⟩ := h
  obtain ⟨hh, ha⟩ := h2 s
  obtain ⟨v, ps, hrun, hv⟩ := h1.look_ok K ht hz (zd := .held z) (zp := []) rfl hkey
  rw [hrun, hh]
  have hv' : DataW.held v = D.atKey (mk s) (.held z) := congrArg Prod.fst (Option.some.inj hv)
  cases hf : f s with
  | none =>
    rw [hf] at hh
    rw [Maps.atKey_of_not_has hh] at hv'
    cases hv'
    rfl
  | some u =>
    rw [ha u hf] at hv'
    cases hv'
    rfl
/-- How many keys are there. -/
def cntF (f : Fin 32 → Option Value) : Nat := (List.finRange 32).countP fun k => (f k).isSome
theorem cntF_le (f : Fin 32 → Option Value) : cntF f ≤ 32 := by
  have := List.countP_le_length (p := fun k => (f k).isSome) (l := List.finRange 32)
  simpa [cntF] using this
theorem countP_upd (l : List (Fin 32)) (hn : l.Nodup) (f : Fin 32 → Option Value) (s : Fin 32) (v : Value) (hs : f s = none) :
    l.countP (fun k => (if k = s then some v else f k).isSome) = l.countP (fun k => (f k).isSome) + if s ∈ l then 1 else 0 := by
  induction l with
  | nil => rfl
  | cons a t ih =>
    have h1 := List.nodup_cons.1 hn
    rw [List.countP_cons, List.countP_cons, ih h1.2]
    by_cases ha : a = s
    · subst ha
      simp [hs, h1.1]
    · have : (s ∈ a :: t) = (s ∈ t) := by simp [Ne.symm ha]
      simp only [if_neg ha, this]
      omega
theorem cntF_upd (f : Fin 32 → Option Value) (s : Fin 32) (v : Value) (hs : f s = none) : cntF (fun k => if k = s then some v else f k) = cntF f + 1 := by
  unfold cntF
  rw [countP_upd _ (List.nodup_finRange 32) f s v hs]
  simp
/-- What a telescope sees in a turn. -/
def seesX (n : Int) (N : Nat) (x : Scp) (t : Nat) : List Int := pickL (fun d => nearW d (x.zs.getD t (0, 0, 0)) x.ln x.ld) (cellsL n N)
/-- A list of ints that lies apart from the blocks that are written. -/
def SeesV (W : World) (R : Nat → Prop) (mb : Nat) (l : List Int) (v : Value) : Prop := ∃ A c, v = .slice A l.length c ∧ Sl W W.heap.size 1 A l.length c (ints l) ∧ ∀ b o, 0 < l.length → A = some ⟨b, o, none⟩ → b ≠ mb ∧ ¬ R b
theorem SeesV.grown {W W' : World} {R : Nat → Prop} {mb r : Nat} {l : List Int} {v : Value} (h : SeesV W R mb l v) (g : W.grownBy W' (some r)) (hr : r = mb ∨ R r) : SeesV W' R mb l v := by
  obtain ⟨A, c, rfl, hs, ha⟩ := h
  refine ⟨A, c, rfl, ⟨hs.len, hs.cap, hs.max, hs.nil_, fun h0 => ?_⟩, ha⟩
  obtain ⟨b, off, e, hb, hc⟩ := hs.at_ h0
  have hne : b ≠ r := fun e2 => by
    rcases hr with h1 | h1
    · exact (ha b off h0 e).1 (e2.trans h1)
    · exact (ha b off h0 e).2 (e2 ▸ h1)
  have hbk := g.block b hb (fun e2 => hne (Option.some.inj e2))
  exact ⟨b, off, e, Nat.lt_of_lt_of_le hb g.size, fun j u hu => by
    have : W'.cell? ⟨b, off + j, none⟩ = W.cell? ⟨b, off + j, none⟩ := by simp [World.cell?, hbk]
    exact this.trans (hc j u hu)⟩
theorem SeesV.below {W W' : World} {R : Nat → Prop} {mb : Nat} {l : List Int} {v : Value} (h : SeesV W R mb l v) (g : Below W.heap.size W W') : SeesV W' R mb l v := by
  obtain ⟨A, c, rfl, hs, ha⟩ := h
  exact ⟨A, c, rfl, (Sl.below hs g).more g.size, ha⟩
/-- A watch lies in memory: telescopes, a grid, and what was asked for. -/
structure WAt (W : World) (R : Nat → Prop) (B0 wb mb : Nat) (LA : Option Addr) (lc : Nat) (L : List Scp) (n : Int) (N : Nat) (f : Fin 32 → Option Value) : Prop where
  b0 : B0 ≤ wb
  b1 : B0 ≤ mb
  ne : wb ≠ mb
  lt : wb < W.heap.size
  r0 : ∀ r, R r → B0 ≤ r ∧ r ≠ wb ∧ r ≠ mb
  c0 : W.cell? ⟨wb, 0, none⟩ = some (.slice LA L.length lc)
  c1 : W.cell? ⟨wb, 1, none⟩ = some (.int .i64 n)
  c2 : W.cell? ⟨wb, 2, none⟩ = some (.map (some mb))
  sl : Sl W B0 6 LA L.length lc (scsC L)
  zs : ∀ x ∈ L, Sl W B0 3 x.ZA x.zs.length x.zc (zsC x.zs)
  mp : ∃ c, QapK 142 mk2 W mb (cntF f) c f
  vals : ∀ k v, f k = some v → ∃ x, L[k.1 % 4]? = some x ∧ SeesV W R mb (seesX n N x (k.1 / 4)) v
theorem WAt.grown {W W' : World} {R : Nat → Prop} {B0 wb mb : Nat} {LA : Option Addr} {lc : Nat} {L : List Scp} {n : Int} {N : Nat} {f : Fin 32 → Option Value} (h : WAt W R B0 wb mb LA lc L n N f) {r : Nat} (g : W.grownBy W' (some r)) (hr : R r) : WAt W' R B0 wb mb LA lc L n N f := by
  obtain ⟨hb0, hne, hnm⟩ := h.r0 r hr
  have hwl := h.lt
  have key : ∀ b, b < W.heap.size → b ≠ r → W'.heap[b]? = W.heap[b]? := fun b hb hn => g.block b hb (fun e => hn (Option.some.inj e))
  have cell : ∀ b o, b < W.heap.size → b ≠ r → W'.cell? ⟨b, o, none⟩ = W.cell? ⟨b, o, none⟩ := fun b o hb hn => by simp [World.cell?, key b hb hn]
  obtain ⟨c, hm⟩ := h.mp
  have hB : B0 ≤ W.heap.size := Nat.le_trans h.b0 (Nat.le_of_lt hwl)
  refine ⟨h.b0, h.b1, h.ne, Nat.lt_of_lt_of_le hwl g.size, h.r0, (cell _ _ hwl (Ne.symm hne)).trans h.c0, (cell _ _ hwl (Ne.symm hne)).trans h.c1, (cell _ _ hwl (Ne.symm hne)).trans h.c2, Sl.keep h.sl fun b o hb => cell b o (by omega) (by omega), fun x hx => Sl.keep (h.zs x hx) fun b o hb => cell b o (by omega) (by omega), ⟨c, hm.kept (key mb hm.lt (Ne.symm hnm))⟩, fun k v hk => ?_⟩
  obtain ⟨x, hx, hv⟩ := h.vals k v hk
  exact ⟨x, hx, hv.grown g (.inr hr)⟩
theorem WAt.below {W W' : World} {R : Nat → Prop} {B0 wb mb : Nat} {LA : Option Addr} {lc : Nat} {L : List Scp} {n : Int} {N : Nat} {f : Fin 32 → Option Value} (h : WAt W R B0 wb mb LA lc L n N f) (g : Below W.heap.size W W') : WAt W' R B0 wb mb LA lc L n N f := by
  have hwl := h.lt
  obtain ⟨c, hm⟩ := h.mp
  have hB : B0 ≤ W.heap.size := Nat.le_trans h.b0 (Nat.le_of_lt hwl)
  refine ⟨h.b0, h.b1, h.ne, Nat.lt_of_lt_of_le hwl g.size, h.r0, (g.cell (p := ⟨wb, 0, none⟩) hwl).trans h.c0, (g.cell (p := ⟨wb, 1, none⟩) hwl).trans h.c1, (g.cell (p := ⟨wb, 2, none⟩) hwl).trans h.c2, Sl.below h.sl (g.mono hB), fun x hx => Sl.below (h.zs x hx) (g.mono hB), ⟨c, hm.below g⟩, fun k v hk => ?_⟩
  obtain ⟨x, hx, hv⟩ := h.vals k v hk
  exact ⟨x, hx, hv.below g⟩
theorem WAt.put {W W' : World} {R : Nat → Prop} {B0 wb mb : Nat} {LA : Option Addr} {lc : Nat} {L : List Scp} {n : Int} {N : Nat} {f : Fin 32 → Option Value} (h : WAt W R B0 wb mb LA lc L n N f) (g : W.grownBy W' (some mb)) {k : Fin 32} {v : Value} {c : Nat} (hm : QapK 142 mk2 W' mb (cntF f + 1) c (fun j => if j = k then some v else f j)) (hf : f k = none) {x : Scp} (hx : L[k.1 % 4]? = some x) (hv : SeesV W R mb (seesX n N x (k.1 / 4)) v) :
    WAt W' R B0 wb mb LA lc L n N (fun j => if j = k then some v else f j) := by
  have hwl := h.lt
  have key : ∀ b, b < W.heap.size → b ≠ mb → W'.heap[b]? = W.heap[b]? := fun b hb hn => g.block b hb (fun e => hn (Option.some.inj e))
  have cell : ∀ b o, b < W.heap.size → b ≠ mb → W'.cell? ⟨b, o, none⟩ = W.cell? ⟨b, o, none⟩ := fun b o hb hn => by simp [World.cell?, key b hb hn]
  have hB : B0 ≤ W.heap.size := Nat.le_trans h.b0 (Nat.le_of_lt hwl)
  have hb1 := h.b1
  refine ⟨h.b0, h.b1, h.ne, Nat.lt_of_lt_of_le hwl g.size, h.r0, (cell _ _ hwl h.ne).trans h.c0, (cell _ _ hwl h.ne).trans h.c1, (cell _ _ hwl h.ne).trans h.c2, Sl.keep h.sl fun b o hb => cell b o (by omega) (by omega), fun y hy => Sl.keep (h.zs y hy) fun b o hb => cell b o (by omega) (by omega), ⟨c, by rw [cntF_upd f k v hf]; exact hm⟩, fun j u hj => ?_⟩
  by_cases hjk : j = k
  · subst hjk
    simp only [if_true] at hj
    cases hj
    exact ⟨x, hx, hv.grown g (.inl rfl)⟩
  · simp only [if_neg hjk] at hj
    obtain ⟨y, hy, hs⟩ := h.vals j u hj
    exact ⟨y, hy, hs.grown g (.inl rfl)⟩
theorem seesV_own {w : World} {base mb c : Nat} {e : TypeId} {R : Nat → Prop} {A : Option Addr} {l : List Int} (h : w.ownsRow base e 1 (.slice A l.length c) l.length (ints l)) (hmb : mb < base) (hR : ∀ r, R r → r < base) : SeesV w R mb l (.slice A l.length c) := by
  refine ⟨A, c, rfl, Sl.of_own h, fun b o _ hA => ?_⟩
  subst hA
  rcases h.2 with ⟨hv, _⟩ | ⟨g, cap, cur, hv, hg, _⟩
  · cases hv
  · cases hv
    exact ⟨by omega, fun hr => by have := hR _ hr; omega⟩
/-- A new block that others will write. -/
theorem WAt.ext {W : World} {R : Nat → Prop} {B0 wb mb : Nat} {LA : Option Addr} {lc : Nat} {L : List Scp} {n : Int} {N : Nat} {f : Fin 32 → Option Value} (h : WAt W R B0 wb mb LA lc L n N f) {g : Nat} (hg : W.heap.size ≤ g) : WAt W (fun r => R r ∨ r = g) B0 wb mb LA lc L n N f := by
  have hwl := h.lt
  have hb0 := h.b0
  have hml : mb < W.heap.size := by obtain ⟨c, hm⟩ := h.mp; exact hm.lt
  refine ⟨h.b0, h.b1, h.ne, h.lt, fun r hr => ?_, h.c0, h.c1, h.c2, h.sl, h.zs, h.mp, fun k v hk => ?_⟩
  · rcases hr with hr | rfl
    · exact h.r0 r hr
    · exact ⟨by omega, by omega, by omega⟩
  · obtain ⟨x, hx, A, c, rfl, hs, ha⟩ := h.vals k v hk
    refine ⟨x, hx, A, c, rfl, hs, fun b o h0 hA => ⟨(ha b o h0 hA).1, fun hr => ?_⟩⟩
    rcases hr with hr | hr
    · exact (ha b o h0 hA).2 hr
    · obtain ⟨b', off, e, hb, -⟩ := hs.at_ h0
      rw [hA] at e
      cases e
      omega
theorem grown_some {A B : World} {r : Nat} (h : Below A.heap.size A B) : A.grownBy B (some r) := ⟨h.os, h.tape, h.output, h.size, fun k hk _ => h.block k hk⟩
end Go.Proofs.YtpphnnijnnfngaaGreatDoor
