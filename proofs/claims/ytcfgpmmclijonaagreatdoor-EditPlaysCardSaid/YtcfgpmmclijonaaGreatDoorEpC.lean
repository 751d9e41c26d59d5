/- Layer 25: the program's editor beside the reference's: what they have in common, op by op. -/
import Derived.Test.YtcfgpmmclijonaaGreatDoorEpB
import Derived.Test.YtcfgpmmclijonaaGreatDoorErC
import Derived.Test.YtcfgpmmclijonaaGreatDoorErD
import Derived.Test.YtcfgpmmclijonaaGreatDoorEdBd
namespace Go.Proofs.YtcfgpmmclijonaaGreatDoor
set_option linter.unusedVariables false
set_option linter.unusedSimpArgs false
set_option maxRecDepth 100000
open Go.RowKit Go.Shelf Go.Lib
set_option maxRecDepth 100000
set_option maxHeartbeats 8000000

def stps (L : List (Nat × Stp)) : List Stp := L.map Prod.snd
def TxFit (t : Tx) : Prop := t.b.size ≤ 65536 ∧ Seam t.b.data.toList t.x ∧ Seam t.b.data.toList t.y
def POwn (e : Nat) (L N : List (Nat × Stp)) (j : Nat) : Prop := j = e ∨ InC L j ∨ InC N j
def Own (e g : Nat) (L N : List (Nat × Stp)) (Bk On : Value) (j : Nat) : Prop := POwn e L N j ∨ RFoot g Bk On j
structure Pr (w : World) (e g : Nat) (E : Ed) (L N : List (Nat × Stp)) (Bk On : Value) : Prop where
  pg : PgS w e E L N
  rd : RdS w 0 g E.b E.x E.y (stps L).reverse (stps N).reverse Bk On
  ok : EdOk E
  ap : ∀ j, POwn e L N j → ¬ RFoot g Bk On j
  st : ∀ c, c ∈ L ∨ c ∈ N → TxFit c.2.u ∧ TxFit c.2.v
/-- What an op leaves of both. -/
def Nxt (w w' : World) (e g : Nat) (L N : List (Nat × Stp)) (Bk On : Value) : Prop := ∃ E' L' N' Bk' On', Pr w' e g E' L' N' Bk' On' ∧ Turn (Own e g L N Bk On) w w' ∧ (∀ j, Own e g L' N' Bk' On' j → Own e g L N Bk On j ∨ w.heap.size ≤ j)
theorem PgS.own {w : World} {e : Nat} {E : Ed} {L N : List (Nat × Stp)} (h : PgS w e E L N) {j : Nat} (hj : POwn e L N j) : j < w.heap.size := by
  rcases hj with rfl | ⟨c, hc, rfl⟩ | ⟨c, hc, rfl⟩
  · exact h.ed.lt
  · exact h.cp.lt c hc
  · exact h.cq.lt c hc
theorem Pr.own {w : World} {e g : Nat} {E : Ed} {L N : List (Nat × Stp)} {Bk On : Value} (h : Pr w e g E L N Bk On) {j : Nat} (hj : Own e g L N Bk On j) : j < w.heap.size := hj.elim (fun h1 => h.pg.own h1) (fun h1 => h.rd.foot h1)
theorem RdS.same {w w' : World} {g : Nat} {b : ByteArray} {x y : Nat} {Bs Os : List Stp} {Bk On : Value} (h : RdS w 0 g b x y Bs Os Bk On) (hk : ∀ j, RFoot g Bk On j → w'.heap[j]? = w.heap[j]?) : RdS w' 0 g b x y Bs Os Bk On :=
  ⟨by have := h.at_; unfold RdAt at this ⊢; rw [hk g (.inl rfl)]; exact this, h.wb.same fun k hk' => hk k (.inr (.inl hk')), h.wo.same fun k hk' => hk k (.inr (.inr hk')), h.ap⟩
/-- A pair stays where nothing of it is turned. -/
theorem Pr.turn {w w' : World} {e g : Nat} {E : Ed} {L N : List (Nat × Stp)} {Bk On : Value} {F : Nat → Prop} (h : Pr w e g E L N Bk On) (t : Turn F w w') (hF : ∀ j, Own e g L N Bk On j → ¬ F j) : Pr w' e g E L N Bk On :=
  ⟨h.pg.keep fun j hj => t.block j (h.pg.own hj) (hF j (.inl hj)), h.rd.same fun j hj => t.block j (h.rd.foot hj) (hF j (.inr hj)), h.ok, h.ap, h.st⟩
theorem Pr.on {w w' : World} {e g : Nat} {E : Ed} {L N : List (Nat × Stp)} {Bk On : Value} (h : Pr w e g E L N Bk On) (hb : Below w.heap.size w w') : Pr w' e g E L N Bk On := ⟨h.pg.on hb, h.rd.on hb, h.ok, h.ap, h.st⟩
section
variable {w0 w1 w2 : World} {e g : Nat} {E E' : Ed} {L N L' N' : List (Nat × Stp)} {Bk On Bk' On' : Value}
theorem Pr.step (h : Pr w0 e g E L N Bk On) (p1 : PgS w1 e E' L' N') (t1 : Turn (PFoot e L) w0 w1) (c1 : NewC w0 L N L' N') (r2 : RdS w2 0 g E'.b E'.x E'.y (stps L').reverse (stps N').reverse Bk' On') (t2 : Turn (RFoot g Bk On) w1 w2)
    (o1 : ∀ k, Bk'.ownBlock = some k ∨ On'.ownBlock = some k → RFoot g Bk On k ∨ w1.heap.size ≤ k) (ok' : EdOk E') (st' : ∀ c, c ∈ L' ∨ c ∈ N' → TxFit c.2.u ∧ TxFit c.2.v) : Nxt w0 w2 e g L N Bk On := by
  have hs1 := t1.size
  have hp : ∀ j, POwn e L' N' j → POwn e L N j ∨ w0.heap.size ≤ j := by
    rintro j (rfl | h1)
    · exact .inl (.inl rfl)
    · rcases c1 j h1 with h2 | h2 | h2
      · exact .inl (.inr (.inl h2))
      · exact .inl (.inr (.inr h2))
      · exact .inr h2
  have hn : ∀ j, POwn e L' N' j → ¬ RFoot g Bk On j := by
    intro j hj hr
    rcases hp j hj with h1 | h1
    · exact h.ap j h1 hr
    · have := h.rd.foot hr
      omega
  have hr : ∀ j, RFoot g Bk' On' j → RFoot g Bk On j ∨ w1.heap.size ≤ j := by
    rintro j (rfl | h1)
    · exact .inl (.inl rfl)
    · exact o1 j h1
  refine ⟨E', L', N', Bk', On', ⟨p1.keep fun j hj => t2.block j (p1.own hj) (hn j hj), r2, ok', fun j hj hf => ?_, st'⟩, (t1.wider fun k hk => ?_).trans (t2.wider fun k hk => .inr hk), ?_⟩
  · rcases hr j hf with h1 | h1
    · exact hn j hj h1
    · have := p1.own hj
      omega
  · rcases hk with rfl | hk
    · exact .inl (.inl rfl)
    · exact .inl (.inr (.inl hk))
  · rintro j (hj | hj)
    · rcases hp j hj with h1 | h1
      · exact .inl (.inl h1)
      · exact .inr h1
    · rcases hr j hj with h1 | h1
      · exact .inl (.inr h1)
      · exact .inr (by omega)
theorem NewC.refl (w : World) (L N : List (Nat × Stp)) : NewC w L N L N := fun j hj => hj.elim .inl fun h => .inr (.inl h)
theorem RFoot.own {g : Nat} {Bk On : Value} {k n : Nat} (h : Bk.ownBlock = some k ∨ On.ownBlock = some k) : RFoot g Bk On k ∨ n ≤ k := .inl (.inr h)
theorem stps_cap (L : List (Nat × Stp)) (t : Nat) (s : Stp) (hl : L.length ≤ 256) : (stps (((t, s) :: L).take 256)).reverse = cap256 ((stps L).reverse ++ [s]) := by
  have h1 : stps (((t, s) :: L).take 256) = (s :: stps L).take 256 := by
    unfold stps
    rw [List.map_take]
    rfl
  rw [h1, List.reverse_take, List.reverse_cons]
  have hll : (stps L).length = L.length := List.length_map ..
  unfold cap256
  rw [List.length_append, List.length_reverse, List.length_singleton, List.length_cons, hll]
  split
  · rw [show L.length + 1 - 256 = 1 by omega]
  · rw [show L.length + 1 - 256 = 0 by omega]
    rfl
theorem EdOk.cat {E : Ed} {s : ByteArray} {lo hi z : Nat} (h1 : lo ≤ hi) (h2 : hi ≤ E.b.size) (hl : E.b.size - (hi - lo) + s.size ≤ 65536) (hz : z = settledE (cat3 E.b s lo hi).data.toList (lo + s.size)) : TxFit ⟨cat3 E.b s lo hi, z, z⟩ := by
  have hcs := cat3_size (s := s) h1 h2
  have hse : Seam (cat3 E.b s lo hi).data.toList z := by
    rw [hz]
    refine Seam.settled ?_
    rw [ba_len, hcs]
    omega
  exact ⟨by show (cat3 E.b s lo hi).size ≤ 65536; omega, hse, hse⟩
theorem new_cut (L N : List (Nat × Stp)) {w : World} {t : Nat} {s : Stp} (ht : w.heap.size ≤ t) : NewC w L N (((t, s) :: L).take 256) [] := by
  rintro j (⟨c, hc, rfl⟩ | ⟨c, hc, _⟩)
  · rcases List.mem_cons.1 (List.mem_of_mem_take hc) with rfl | hc
    · exact .inr (.inr ht)
    · exact .inl ⟨c, hc, rfl⟩
  · cases hc
theorem st_cut {t : Nat} {E : Ed} {v : Tx} (h : Pr w0 e g E L N Bk On) (hv : TxFit v) : ∀ c, c ∈ ((t, ⟨⟨E.b, E.x, E.y⟩, v⟩) :: L).take 256 ∨ c ∈ ([] : List (Nat × Stp)) → TxFit c.2.u ∧ TxFit c.2.v := by
  rintro c (hc | hc)
  · rcases List.mem_cons.1 (List.mem_of_mem_take hc) with rfl | hc
    · exact ⟨h.ok, hv⟩
    · exact h.st c (.inl hc)
  · cases hc
theorem Pr.stay (h : Pr w0 e g E L N Bk On) (p1 : PgS w1 e E L N) (t1 : Turn (PFoot e L) w0 w1) (hb : Below w1.heap.size w1 w2) : Nxt w0 w2 e g L N Bk On := by
  have r1 : RdS w1 0 g E.b E.x E.y (stps L).reverse (stps N).reverse Bk On := h.rd.same fun j hj => t1.block j (h.rd.foot hj) (by
    rintro (rfl | h1)
    · exact h.ap _ (.inl rfl) hj
    · exact h.ap j (.inr (.inl h1)) hj)
  exact h.step p1 t1 (NewC.refl _ _ _) (r1.on hb) (Turn.of_below hb) (fun k hk => RFoot.own hk) h.ok h.st
theorem pair_chg {s : ByteArray} {lo hi t z z2 : Nat} {Bk2 : Value} (h : Pr w0 e g E L N Bk On) (h1 : lo ≤ hi) (h2 : hi ≤ E.b.size) (hl : E.b.size - (hi - lo) + s.size ≤ 65536) (hz : z = settledE (cat3 E.b s lo hi).data.toList (lo + s.size)) (hz2 : z2 = settledE (cat3 E.b s lo hi).data.toList (lo + s.size)) (ht : w0.heap.size ≤ t)
    (p1 : PgS w1 e ⟨cat3 E.b s lo hi, z, z, some ⟨t, 0, none⟩, none, min (L.length + 1) 256, 0⟩ (((t, ⟨⟨E.b, E.x, E.y⟩, ⟨cat3 E.b s lo hi, z, z⟩⟩) :: L).take 256) []) (t1 : Turn (PFoot e L) w0 w1)
    (r2 : RdS w2 0 g (cat3 E.b s lo hi) z2 z2 (cap256 ((stps L).reverse ++ [⟨⟨E.b, E.x, E.y⟩, ⟨cat3 E.b s lo hi, z2, z2⟩⟩])) [] Bk2 (.slice none 0 0)) (t2 : Turn (RFoot g Bk On) w1 w2) (o2 : ∀ k, Bk2.ownBlock = some k → Bk.ownBlock = some k ∨ w1.heap.size ≤ k) : z = z2 ∧ Nxt w0 w2 e g L N Bk On := by
  have e1 : z2 = z := by rw [hz, hz2]
  subst e1
  have hv := EdOk.cat h1 h2 hl hz
  have hle := h.pg.le
  rw [← stps_cap L t _ (by omega)] at r2
  exact ⟨rfl, h.step p1 t1 (new_cut L N ht) r2 t2 (fun k hk => hk.elim (fun h3 => (o2 k h3).imp (fun h4 => .inr (.inl h4)) id) (fun h3 => by cases h3)) hv (st_cut h hv)⟩
theorem pair_ch {s : ByteArray} {lo hi : Nat} {e1 e2 : Ending} (h : Pr w0 e g E L N Bk On) (h1 : lo ≤ hi) (h2 : hi ≤ E.b.size) (hc : ChP w0 e E L N s lo hi e1 w1) (hr : RCh w1 0 g E.b E.x E.y (stps L).reverse (stps N).reverse Bk On s lo hi e2 w2) : e1 = e2 ∧ Nxt w0 w2 e g L N Bk On := by
  rcases hc with ⟨a1, a2, a3⟩ | ⟨a1, a2, a3, a4, a5⟩ | ⟨a1, a2, t, z, a3, a4, a5, a6, a7⟩
  · rcases hr with ⟨b1, b2, b3⟩ | ⟨b1, _⟩ | ⟨b1, _⟩
    · exact ⟨a2.trans b2.symm, h.stay (h.pg.on a3) (Turn.of_below a3) b3⟩
    · omega
    · omega
  · rcases hr with ⟨b1, b2, b3⟩ | ⟨b1, b2, b3, b4, b5⟩ | ⟨b1, b2, _⟩
    · omega
    · exact ⟨a4.trans b4.symm, h.stay (h.pg.on a5) (Turn.of_below a5) b5⟩
    · exact absurd ⟨a2, a3⟩ b2
  · rcases hr with ⟨b1, b2, b3⟩ | ⟨b1, b2, b3, b4, b5⟩ | ⟨b1, b2, z2, Bk2, b3, b4, b5, b6, b7⟩
    · omega
    · exact absurd ⟨b2, b3⟩ a2
    · exact ⟨a3.trans b3.symm, (pair_chg h h1 h2 a1 a4 b4 a5 a6 a7 b5 b6 b7).2⟩
theorem pair_key {a : KAct} {e1 e2 : Ending} (h : Pr w0 e g E L N Bk On) (hgo : ∀ x y, a = .go x y → EdOk { E with x := x, y := y }) (hed : ∀ s lo hi, a = .ed s lo hi → lo ≤ hi ∧ hi ≤ E.b.size) (hc : KPP w0 e E L N a e1 w1) (hr : RKP w1 0 g E.b E.x E.y (stps L).reverse (stps N).reverse Bk On a e2 w2) : e1 = e2 ∧ Nxt w0 w2 e g L N Bk On := by
  have one : ∀ {u v : World}, Turn (fun j => j = e) u v → Turn (PFoot e L) u v := fun t => t.wider fun k hk => .inl hk
  cases a with
  | go x y =>
    obtain ⟨a1, a2, a3⟩ := hc
    obtain ⟨b1, b2, b3⟩ := hr
    exact ⟨a1.trans b1.symm, h.step a2 (one a3) (NewC.refl _ _ _) b2 (Turn.grown b3 (fun k hk => .inl (by injection hk with hk; exact hk.symm))) (fun k hk => RFoot.own hk) (hgo x y rfl) h.st⟩
  | no =>
    obtain ⟨a1, a2, a3⟩ := hc
    obtain ⟨b1, b2⟩ := hr
    exact ⟨a1.trans b1.symm, h.stay a2 (one a3) b2⟩
  | ed s lo hi =>
    obtain ⟨h1, h2⟩ := hed s lo hi rfl
    rcases hc with ⟨a1, a2, a3, a3'⟩ | ⟨a1, a2, a3, a4, a5, a5'⟩ | ⟨a1, a2, t, z, a3, a4, a5, a6, a7⟩
    · rcases hr with ⟨b1, b2, b3⟩ | ⟨b1, _⟩ | ⟨b1, _⟩
      · exact ⟨a2.trans b2.symm, h.stay a3 a3' b3⟩
      · omega
      · omega
    · rcases hr with ⟨b1, b2, b3⟩ | ⟨b1, b2, b3, b4, b5⟩ | ⟨b1, b2, _⟩
      · omega
      · exact ⟨a4.trans b4.symm, h.stay a5 a5' b5⟩
      · exact absurd ⟨a2, a3⟩ b2
    · rcases hr with ⟨b1, b2, b3⟩ | ⟨b1, b2, b3, b4, b5⟩ | ⟨b1, b2, z2, b3, b4, z3, Bk2, _, b5, b6, b7, b8⟩
      · omega
      · exact absurd ⟨b2, b3⟩ a2
      · have hp := pair_chg h h1 h2 a1 a4 b5 a5 a6 a7 b6 b7 b8
        have e3 : z = z2 := a4.trans b4.symm
        subst e3
        exact ⟨a3.trans b3.symm, hp.2⟩
end
end Go.Proofs.YtcfgpmmclijonaaGreatDoor

/- Layer 25: each call of an op on both editors. -/
namespace Go.Proofs.YtcfgpmmclijonaaGreatDoor
set_option linter.unusedVariables false
set_option linter.unusedSimpArgs false
set_option maxRecDepth 100000
open Go.RowKit Go.Shelf Go.Lib
set_option maxRecDepth 100000
set_option maxHeartbeats 8000000

section
variable {w0 w1 w2 W : World} {e g : Nat} {E E' : Ed} {L N L' N' : List (Nat × Stp)} {Bk On Bk' On' : Value}
theorem Pr.ref (h : Pr w0 e g E L N Bk On) (t1 : Turn (PFoot e L) w0 w1) : RdS w1 0 g E.b E.x E.y (stps L).reverse (stps N).reverse Bk On := h.rd.same fun j hj => t1.block j (h.rd.foot hj) (by
  rintro (rfl | h1)
  · exact h.ap _ (.inl rfl) hj
  · exact h.ap j (.inr (.inl h1)) hj)
theorem PFoot.own {j : Nat} (h : PFoot e L j) : Own e g L N Bk On j := .inl (h.elim .inl fun h => .inr (.inl h))
theorem Turn.one (t : Turn (fun j => j = e) w0 w1) : Turn (PFoot e L) w0 w1 := t.wider fun k hk => .inl hk
theorem Turn.own (t : Turn (PFoot e L) w0 w1) : Turn (Own e g L N Bk On) w0 w1 := t.wider fun k hk => PFoot.own hk
theorem ChP.turn {s : ByteArray} {lo hi : Nat} {r : Ending} (h : ChP w0 e E L N s lo hi r w1) : Turn (PFoot e L) w0 w1 := by
  rcases h with ⟨_, _, h⟩ | ⟨_, _, _, _, h⟩ | ⟨_, _, _, _, _, _, _, _, h⟩
  · exact Turn.of_below h
  · exact Turn.of_below h
  · exact h
theorem KPP.turn {a : KAct} {r : Ending} (h : KPP w0 e E L N a r w1) : Turn (PFoot e L) w0 w1 := by
  cases a with
  | go x y => exact h.2.2.one
  | no => exact h.2.2.one
  | ed s lo hi =>
    rcases h with ⟨_, _, _, h⟩ | ⟨_, _, _, _, _, h⟩ | ⟨_, _, _, _, _, _, _, _, h⟩
    · exact h
    · exact h
    · exact h
theorem KPP.before {a : KAct} {r : Ending} (hb : Below w0.heap.size w0 w1) (h : KPP w1 e E L N a r w2) : KPP w0 e E L N a r w2 := by
  have hsz := hb.size
  cases a with
  | go x y => exact ⟨h.1, h.2.1, (Turn.of_below hb).trans h.2.2⟩
  | no => exact ⟨h.1, h.2.1, (Turn.of_below hb).trans h.2.2⟩
  | ed s lo hi =>
    rcases h with ⟨h1, h2, h3, h4⟩ | ⟨h1, h2, h3, h4, h5, h6⟩ | ⟨h1, h2, t, z, h3, h4, h5, h6, h7⟩
    · exact .inl ⟨h1, h2, h3, (Turn.of_below hb).trans h4⟩
    · exact .inr (.inl ⟨h1, h2, h3, h4, h5, (Turn.of_below hb).trans h6⟩)
    · exact .inr (.inr ⟨h1, h2, t, z, h3, h4, by omega, h6, (Turn.of_below hb).trans h7⟩)
theorem KPP.ret {a : KAct} {r : Ending} (h : KPP w0 e E L N a r w1) : ∃ (o : Bool) (v : Int), r = .returned (.tuple #[.bool o, .int .i64 v]) := by
  cases a with
  | go x y => exact ⟨_, _, h.1⟩
  | no => exact ⟨_, _, h.1⟩
  | ed s lo hi =>
    rcases h with ⟨_, h, _⟩ | ⟨_, _, _, h, _⟩ | ⟨_, _, _, _, h, _⟩
    · exact ⟨_, _, h⟩
    · exact ⟨_, _, h⟩
    · exact ⟨_, _, h⟩
theorem Pr.lens (h : Pr w0 e g E L N Bk On) : (stps L).reverse.length = L.length ∧ (stps N).reverse.length = N.length := by
  constructor <;> (rw [List.length_reverse]; exact List.length_map ..)
theorem lk_type (h : Pr W e g E L N Bk On) (s : ByteArray) (hs : s.size ≤ 1000000) : ∃ P : Int → World → Prop,
    (∀ wx, Below W.heap.size W wx → Calls Tryz.prog 7 #[.pointer (some ⟨e, 0, none⟩), .string s] wx fun r w1 => ∃ v, r = .returned (.int .i64 v) ∧ P v w1 ∧ Turn (Own e g L N Bk On) W w1) ∧
    (∀ v w1, P v w1 → Calls Tryz.prog 8 #[.pointer (some ⟨g, 0, none⟩), .string s] w1 fun r w2 => r = .returned (.int .i64 v) ∧ Nxt W w2 e g L N Bk On) := by
  have hl := h.ok.le
  have hle := h.pg.le
  have hlen := h.lens.1
  refine ⟨fun v w1 => ChP W e E L N s (min E.x E.y) (max E.x E.y) (.returned (.int .i64 v)) w1, fun wx hb => (Type_pg (h.pg.on hb) hl.1 hl.2 h.ok.1 s hs).mono fun r w1 hc => ?_, fun v w1 hp => (rType_any (h.ref hp.turn) (Nat.zero_le _) s hl.1 hl.2 h.ok.1 hs (by omega)).mono fun r w2 hr => ?_⟩
  · have hc := hc.before hb
    obtain ⟨v, rfl⟩ := hc.ret
    exact ⟨v, rfl, hc, hc.turn.own⟩
  · have := pair_ch h (by omega) (by omega) hp hr
    exact ⟨this.1.symm, this.2⟩
theorem lk_move (h : Pr W e g E L N Bk On) (a : Int) (keep : Bool) : ∃ P : Int → World → Prop,
    (∀ wx, Below W.heap.size W wx → Calls Tryz.prog 11 #[.pointer (some ⟨e, 0, none⟩), .int .i64 a, .bool keep] wx fun r w1 => ∃ v, r = .returned (.int .i64 v) ∧ P v w1 ∧ Turn (Own e g L N Bk On) W w1) ∧
    (∀ v w1, P v w1 → Calls Tryz.prog 12 #[.pointer (some ⟨g, 0, none⟩), .int .i64 a, .bool keep] w1 fun r w2 => r = .returned (.int .i64 v) ∧ Nxt W w2 e g L N Bk On) := by
  have hb5 := h.ok.1
  by_cases ha : a < 0 ∨ (E.b.size : Int) < a
  · refine ⟨fun v w1 => v = 2 ∧ Below W.heap.size W w1, fun wx hb => (Move_bad (h.pg.on hb).ed a ha keep).mono ?_, fun v w1 hp => (rMove_bad (h.on hp.2).rd.at_ a ha keep).mono ?_⟩
    · rintro r w1 ⟨rfl, hb1⟩
      have hB := hb.trans (hb1.mono hb.size)
      exact ⟨2, rfl, ⟨rfl, hB⟩, Turn.of_below hB⟩
    · rintro r w2 ⟨rfl, hb2⟩
      exact ⟨by rw [hp.1], h.stay (h.pg.on hp.2) (Turn.of_below hp.2) hb2⟩
  · obtain ⟨k, rfl⟩ : ∃ k : Nat, a = (k : Int) := ⟨a.toNat, by omega⟩
    have hk : k ≤ E.b.size := by omega
    have hse : Seam E.b.data.toList (settledE E.b.data.toList k) := Seam.settled (by rw [ba_len]; exact hk)
    refine ⟨fun v w1 => v = 0 ∧ PgS w1 e { E with x := settledE E.b.data.toList k, y := if keep then E.y else settledE E.b.data.toList k } L N ∧ Turn (fun j => j = e) W w1, fun wx hb => (Move_any (h.pg.on hb).ed (by omega) k hk keep).mono ?_, fun v w1 hp => (rMove_any (h.ref hp.2.2.one).at_ (by omega) k hk keep).mono ?_⟩
    · rintro r w1 ⟨rfl, h1, hg1⟩
      have T1 : Turn (fun j => j = e) wx w1 := Turn.grown hg1 (fun k hk => by injection hk with hk; exact hk.symm)
      have T2 := (Turn.of_below hb (C := fun j => j = e)).trans T1
      exact ⟨0, rfl, ⟨rfl, (h.pg.on hb).go h1 rfl rfl rfl rfl T1, T2⟩, T2.one.own⟩
    · rintro r w2 ⟨rfl, h2, hg2⟩
      obtain ⟨rfl, p1, t1⟩ := hp
      have r1 := (h.ref t1.one).text h2 hg2
      have hok : EdOk { E with x := settledE E.b.data.toList k, y := if keep then E.y else settledE E.b.data.toList k } := by
        refine ⟨h.ok.1, hse, ?_⟩
        show Seam E.b.data.toList (if keep = true then E.y else _)
        split
        · exact h.ok.2.2
        · exact hse
      exact ⟨rfl, h.step p1 t1.one (NewC.refl _ _ _) r1 (Turn.grown hg2 (fun k hk => .inl (by injection hk with hk; exact hk.symm))) (fun k hk => RFoot.own hk) hok h.st⟩
theorem lk_show (h : Pr W e g E L N Bk On) (n : Int) : ∃ (s : ByteArray) (a v : Int),
    (∀ wx, Below W.heap.size W wx → Calls Tryz.prog 17 #[.pointer (some ⟨e, 0, none⟩), .int .i64 n] wx fun r w1 => r = .returned (.tuple #[.string s, .int .i64 a, .int .i64 v]) ∧ Below wx.heap.size wx w1) ∧
    (∀ w1, Below W.heap.size W w1 → Calls Tryz.prog 18 #[.pointer (some ⟨g, 0, none⟩), .int .i64 n] w1 fun r w2 => r = .returned (.tuple #[.string s, .int .i64 a, .int .i64 v]) ∧ Below w1.heap.size w1 w2) := by
  have hb5 := h.ok.1
  by_cases hn : n < 1 ∨ 16384 < n
  · exact ⟨⟨#[]⟩, 0, 2, fun wx hb => Show_bad (h.pg.on hb).ed n hn, fun w1 _ => rShow_bad n w1 hn⟩
  · obtain ⟨k, rfl⟩ : ∃ k : Nat, n = (k : Int) := ⟨n.toNat, by omega⟩
    exact ⟨_, _, _, fun wx hb => Show_any (h.pg.on hb).ed (by omega) h.ok.2.1 k (by omega) (by omega), fun w1 hb => rShow_any (h.rd.on hb).at_ (by omega) h.ok.2.1 k (by omega) (by omega)⟩
end
end Go.Proofs.YtcfgpmmclijonaaGreatDoor

/- Layer 25: Undo, Redo and Key on both editors. -/
namespace Go.Proofs.YtcfgpmmclijonaaGreatDoor
set_option linter.unusedVariables false
set_option linter.unusedSimpArgs false
set_option maxRecDepth 100000
open Go.RowKit Go.Shelf Go.Lib
set_option maxRecDepth 100000
set_option maxHeartbeats 8000000

theorem keyE_go {E : Ed} {s : ByteArray} {md x y : Nat} (ho : EdOk E) (h : keyE E.b E.x E.y s md = .go x y) (w : World) : EdOk { E with x := x, y := y } := by
  have : KRes w w E (keyE E.b E.x E.y s md) 0 { E with x := x, y := y } := by
    rw [h]
    exact ⟨rfl, rfl⟩
  exact (keyE_did this ho).1
theorem keyE_ed {E : Ed} {s t : ByteArray} {md lo hi : Nat} (ho : EdOk E) (h : keyE E.b E.x E.y s md = .ed t lo hi) : lo ≤ hi ∧ hi ≤ E.b.size := by
  have hl := ho.le
  have h1 : min E.x E.y ≤ max E.x E.y := by omega
  have h2 : max E.x E.y ≤ E.b.size := by omega
  unfold keyE at h
  split at h
  · cases h
  · split at h
    · injection h with h3 h4 h5
      subst h4
      subst h5
      refine ⟨?_, h2⟩
      split
      · split
        · exact lrowE_le _ _
        · exact leftE_le _ _
      · exact h1
    · split at h
      · have h3 : min E.x E.y ≤ E.b.data.toList.length := by rw [ba_len]; omega
        have h4 := rwordE_ge E.b.data.toList h3
        have h5 := rightE_ge E.b.data.toList h3
        rw [ba_len] at h4 h5
        injection h with h6 h7 h8
        subst h7
        subst h8
        constructor
        · split
          · split
            · exact h4.1
            · exact h5.1
          · exact h1
        · split
          · split
            · exact h4.2
            · exact h5.2
          · exact h2
      · split at h
        · cases h
        · split at h
          · cases h
          · injection h with h6 h7 h8
            subst h7
            subst h8
            exact ⟨h1, h2⟩
section
variable {w0 w1 w2 W : World} {e g : Nat} {E E' : Ed} {L N L' N' : List (Nat × Stp)} {Bk On Bk' On' : Value}
/-- What the reference's Undo comes to. -/
def RUr (w0 : World) (g : Nat) (b : ByteArray) (x y : Nat) (L N : List (Nat × Stp)) (Bk On : Value) (o : Bool) (w' : World) : Prop := ∃ Bk' On', Turn (RFoot g Bk On) w0 w' ∧ (∀ k, Bk'.ownBlock = some k ∨ On'.ownBlock = some k → RFoot g Bk On k ∨ w0.heap.size ≤ k) ∧
  match L with
  | [] => o = false ∧ RdS w' 0 g b x y [] (stps N).reverse Bk' On'
  | c :: L0 => o = true ∧ RdS w' 0 g c.2.u.b c.2.u.x c.2.u.y (stps L0).reverse ((stps N).reverse ++ [c.2]) Bk' On'
def RRr (w0 : World) (g : Nat) (b : ByteArray) (x y : Nat) (L N : List (Nat × Stp)) (Bk On : Value) (o : Bool) (w' : World) : Prop := ∃ Bk' On', Turn (RFoot g Bk On) w0 w' ∧ (∀ k, Bk'.ownBlock = some k ∨ On'.ownBlock = some k → RFoot g Bk On k ∨ w0.heap.size ≤ k) ∧
  match N with
  | [] => o = false ∧ RdS w' 0 g b x y (stps L).reverse [] Bk' On'
  | c :: N0 => o = true ∧ RdS w' 0 g c.2.v.b c.2.v.x c.2.v.y ((stps L).reverse ++ [c.2]) (stps N0).reverse Bk' On'
theorem stps_cons (c : Nat × Stp) (L : List (Nat × Stp)) : (stps (c :: L)).reverse = (stps L).reverse ++ [c.2] := by
  unfold stps
  rw [List.map_cons, List.reverse_cons]
theorem stps_len (L : List (Nat × Stp)) : (stps L).reverse.length = L.length := by rw [List.length_reverse]; exact List.length_map ..
theorem rUndo_pr {b : ByteArray} {x y : Nat} (h : RdS w0 0 g b x y (stps L).reverse (stps N).reverse Bk On) (hl : L.length ≤ 256) (hm : N.length ≤ 256) :
    Calls Tryz.prog 14 #[.pointer (some ⟨g, 0, none⟩)] w0 fun r w' => ∃ o, r = .returned (.bool o) ∧ RUr w0 g b x y L N Bk On o w' := by
  cases L with
  | nil =>
    refine (rUndo_none h).mono ?_
    rintro r w' ⟨rfl, hb⟩
    exact ⟨false, rfl, Bk, On, Turn.of_below hb, fun k hk => .inl (.inr hk), rfl, h.on hb⟩
  | cons c L0 =>
    rw [stps_cons] at h
    rw [List.length_cons] at hl
    refine (rUndo_any h (Nat.zero_le _) (by rw [stps_len]; omega) (by rw [stps_len]; omega)).mono ?_
    rintro r w' ⟨Bk', On', rfl, h1, h2, h3, h4⟩
    exact ⟨true, rfl, Bk', On', h2, fun k hk => hk.elim (fun h5 => (h3 k h5).imp (fun h => .inr (.inl h)) id) (fun h5 => (h4 k h5).imp (fun h => .inr (.inr h)) id), rfl, h1⟩
theorem rRedo_pr {b : ByteArray} {x y : Nat} (h : RdS w0 0 g b x y (stps L).reverse (stps N).reverse Bk On) (hl : L.length ≤ 256) (hm : N.length ≤ 256) :
    Calls Tryz.prog 16 #[.pointer (some ⟨g, 0, none⟩)] w0 fun r w' => ∃ o, r = .returned (.bool o) ∧ RRr w0 g b x y L N Bk On o w' := by
  cases N with
  | nil =>
    refine (rRedo_none h).mono ?_
    rintro r w' ⟨rfl, hb⟩
    exact ⟨false, rfl, Bk, On, Turn.of_below hb, fun k hk => .inl (.inr hk), rfl, h.on hb⟩
  | cons c N0 =>
    rw [stps_cons] at h
    rw [List.length_cons] at hm
    refine (rRedo_any h (Nat.zero_le _) (by rw [stps_len]; omega) (by rw [stps_len]; omega)).mono ?_
    rintro r w' ⟨Bk', On', rfl, h1, h2, h3, h4⟩
    exact ⟨true, rfl, Bk', On', h2, fun k hk => hk.elim (fun h5 => (h3 k h5).imp (fun h => .inr (.inl h)) id) (fun h5 => (h4 k h5).imp (fun h => .inr (.inr h)) id), rfl, h1⟩
theorem pair_un {o1 o2 : Bool} (h : Pr w0 e g E L N Bk On) (p1 : PgS w1 e E' L' N') (t1 : Turn (fun j => j = e) w0 w1) (hu : UnR E L N o1 E' L' N') (hn : NewC w0 L N L' N') (hr : RUr w1 g E.b E.x E.y L N Bk On o2 w2) : o1 = o2 ∧ Nxt w0 w2 e g L N Bk On := by
  obtain ⟨Bk', On', t2, c2, h2⟩ := hr
  cases L with
  | nil =>
    obtain ⟨rfl, rfl, rfl, rfl⟩ := hu
    exact ⟨h2.1.symm, h.step p1 t1.one hn h2.2 t2 c2 h.ok h.st⟩
  | cons c L0 =>
    obtain ⟨rfl, t, rfl, rfl, e1, e2, e3⟩ := hu
    have hc := h.st c (.inl (List.mem_cons_self ..))
    have h3 := h2.2
    rw [← e1, ← e2, ← e3, ← stps_cons (t, c.2) N] at h3
    refine ⟨h2.1.symm, h.step p1 t1.one hn h3 t2 c2 ?_ ?_⟩
    · unfold EdOk
      rw [e1, e2, e3]
      exact hc.1
    · rintro d (hd | hd)
      · exact h.st d (.inl (List.mem_cons_of_mem _ hd))
      · rcases List.mem_cons.1 hd with rfl | hd
        · exact hc
        · exact h.st d (.inr hd)
theorem pair_re {o1 o2 : Bool} (h : Pr w0 e g E L N Bk On) (p1 : PgS w1 e E' L' N') (t1 : Turn (fun j => j = e) w0 w1) (hu : ReR E L N o1 E' L' N') (hn : NewC w0 L N L' N') (hr : RRr w1 g E.b E.x E.y L N Bk On o2 w2) : o1 = o2 ∧ Nxt w0 w2 e g L N Bk On := by
  obtain ⟨Bk', On', t2, c2, h2⟩ := hr
  cases N with
  | nil =>
    obtain ⟨rfl, rfl, rfl, rfl⟩ := hu
    exact ⟨h2.1.symm, h.step p1 t1.one hn h2.2 t2 c2 h.ok h.st⟩
  | cons c N0 =>
    obtain ⟨rfl, t, rfl, rfl, e1, e2, e3⟩ := hu
    have hc := h.st c (.inr (List.mem_cons_self ..))
    have h3 := h2.2
    rw [← e1, ← e2, ← e3, ← stps_cons (t, c.2) L] at h3
    refine ⟨h2.1.symm, h.step p1 t1.one hn h3 t2 c2 ?_ ?_⟩
    · unfold EdOk
      rw [e1, e2, e3]
      exact hc.2
    · rintro d (hd | hd)
      · rcases List.mem_cons.1 hd with rfl | hd
        · exact hc
        · exact h.st d (.inl hd)
      · exact h.st d (.inr (List.mem_cons_of_mem _ hd))
/-- The program's Undo behind what was below. -/
def UnP (w0 : World) (e : Nat) (E : Ed) (L N : List (Nat × Stp)) (R : Ed → List (Nat × Stp) → List (Nat × Stp) → Bool → Ed → List (Nat × Stp) → List (Nat × Stp) → Prop) (o : Bool) (w1 : World) : Prop :=
  ∃ E' L' N', PgS w1 e E' L' N' ∧ Turn (fun j => j = e) w0 w1 ∧ R E L N o E' L' N' ∧ NewC w0 L N L' N'
theorem NewC.before (hb : Below w0.heap.size w0 w1) (h : NewC w1 L N L' N') : NewC w0 L N L' N' := fun j hj => by
  have := hb.size
  rcases h j hj with h | h | h
  · exact .inl h
  · exact .inr (.inl h)
  · exact .inr (.inr (by omega))
theorem lk_undo (h : Pr W e g E L N Bk On) : ∃ P : Bool → World → Prop,
    (∀ wx, Below W.heap.size W wx → Calls Tryz.prog 13 #[.pointer (some ⟨e, 0, none⟩)] wx fun r w1 => ∃ o, r = .returned (.tuple #[.bool o, .int .i64 0]) ∧ P o w1 ∧ Turn (Own e g L N Bk On) W w1) ∧
    (∀ o w1, P o w1 → Calls Tryz.prog 14 #[.pointer (some ⟨g, 0, none⟩)] w1 fun r w2 => r = .returned (.bool o) ∧ Nxt W w2 e g L N Bk On) := by
  have hle := h.pg.le
  refine ⟨fun o w1 => UnP W e E L N UnR o w1, fun wx hb => (Undo_pg (h.pg.on hb)).mono ?_, fun o w1 hp => ?_⟩
  · rintro r w1 ⟨o, E', L', N', rfl, p1, t1, h1, h2⟩
    have T := (Turn.of_below hb (C := fun j => j = e)).trans t1
    exact ⟨o, rfl, ⟨E', L', N', p1, T, h1, h2.before hb⟩, T.one.own⟩
  · obtain ⟨E', L', N', p1, t1, h1, h2⟩ := hp
    refine (rUndo_pr (h.ref t1.one) (by omega) (by omega)).mono ?_
    rintro r w2 ⟨o2, rfl, h3⟩
    have := pair_un h p1 t1 h1 h2 h3
    exact ⟨by rw [this.1], this.2⟩
theorem lk_redo (h : Pr W e g E L N Bk On) : ∃ P : Bool → World → Prop,
    (∀ wx, Below W.heap.size W wx → Calls Tryz.prog 15 #[.pointer (some ⟨e, 0, none⟩)] wx fun r w1 => ∃ o, r = .returned (.tuple #[.bool o, .int .i64 0]) ∧ P o w1 ∧ Turn (Own e g L N Bk On) W w1) ∧
    (∀ o w1, P o w1 → Calls Tryz.prog 16 #[.pointer (some ⟨g, 0, none⟩)] w1 fun r w2 => r = .returned (.bool o) ∧ Nxt W w2 e g L N Bk On) := by
  have hle := h.pg.le
  refine ⟨fun o w1 => UnP W e E L N ReR o w1, fun wx hb => (Redo_pg (h.pg.on hb)).mono ?_, fun o w1 hp => ?_⟩
  · rintro r w1 ⟨o, E', L', N', rfl, p1, t1, h1, h2⟩
    have T := (Turn.of_below hb (C := fun j => j = e)).trans t1
    exact ⟨o, rfl, ⟨E', L', N', p1, T, h1, h2.before hb⟩, T.one.own⟩
  · obtain ⟨E', L', N', p1, t1, h1, h2⟩ := hp
    refine (rRedo_pr (h.ref t1.one) (by omega) (by omega)).mono ?_
    rintro r w2 ⟨o2, rfl, h3⟩
    have := pair_re h p1 t1 h1 h2 h3
    exact ⟨by rw [this.1], this.2⟩
theorem KPP.after {a : KAct} {r : Ending} (hb : Below w1.heap.size w1 w2) (h : KPP w0 e E L N a r w1) : KPP w0 e E L N a r w2 := by
  cases a with
  | go x y => exact ⟨h.1, h.2.1.on hb, h.2.2.trans (Turn.of_below hb)⟩
  | no => exact ⟨h.1, h.2.1.on hb, h.2.2.trans (Turn.of_below hb)⟩
  | ed s lo hi =>
    rcases h with ⟨h1, h2, h3, h4⟩ | ⟨h1, h2, h3, h4, h5, h6⟩ | ⟨h1, h2, t, z, h3, h4, h5, h6, h7⟩
    · exact .inl ⟨h1, h2, h3.on hb, h4.trans (Turn.of_below hb)⟩
    · exact .inr (.inl ⟨h1, h2, h3, h4, h5.on hb, h6.trans (Turn.of_below hb)⟩)
    · exact .inr (.inr ⟨h1, h2, t, z, h3, h4, h5, h6.on hb, h7.trans (Turn.of_below hb)⟩)
/-- A key's call on both: the first half. -/
def KeyA (W : World) (e g : Nat) (L N : List (Nat × Stp)) (Bk On : Value) (s : ByteArray) (md : Nat) (P : Bool → Int → World → Prop) : Prop :=
  (∀ wx, Below W.heap.size W wx → Calls Tryz.prog 9 #[.pointer (some ⟨e, 0, none⟩), .agg #[.string s, .int .u8 (md : Int)]] wx fun r w1 => ∃ o v, r = .returned (.tuple #[.bool o, .int .i64 v]) ∧ P o v w1 ∧ Turn (Own e g L N Bk On) W w1) ∧
  (∀ o v w1, P o v w1 → ∀ wy, Below w1.heap.size w1 wy → Calls Tryz.prog 10 #[.pointer (some ⟨g, 0, none⟩), .agg #[.string s, .int .u8 (md : Int)]] wy fun r w2 => r = .returned (.tuple #[.bool o, .int .i64 v]) ∧ Nxt W w2 e g L N Bk On)
theorem lk_key (h : Pr W e g E L N Bk On) (hT : ∀ w1, Turn (Own e g L N Bk On) W w1 → Tabs w1) (s : ByteArray) (md : Nat) (hs : s.size ≤ 9223372036854775807) : ∃ P : Bool → Int → World → Prop, KeyA W e g L N Bk On s md P := by
  have hle := h.pg.le
  have hl := h.ok.le
  have hlen := h.lens.1
  have hTb : ∀ w1, Below W.heap.size W w1 → Tabs w1 := fun w1 hb => hT w1 (Turn.of_below hb)
  by_cases hm : mayB ⟨s.data.toList, md⟩ = false
  · refine ⟨fun o v w1 => o = false ∧ v = 210 ∧ PgS w1 e E L N ∧ Turn (fun j => j = e) W w1, fun wx hb => (Key_bad (hTb wx hb) (h.pg.on hb).ed s md hm).mono ?_, fun o v w1 hp wy hy => ?_⟩
    · rintro r w1 ⟨rfl, h1, hg1⟩
      have T1 : Turn (fun j => j = e) wx w1 := Turn.grown hg1 (fun k hk => by injection hk with hk; exact hk.symm)
      have T2 := (Turn.of_below hb (C := fun j => j = e)).trans T1
      exact ⟨false, 210, rfl, ⟨rfl, rfl, (h.pg.on hb).go h1 rfl rfl rfl rfl T1, T2⟩, T2.one.own⟩
    · obtain ⟨rfl, rfl, p1, t1⟩ := hp
      refine (rKey_bad (hT wy (t1.one.own.trans (Turn.of_below hy))) ((h.ref t1.one).on hy) s md hs hm).mono ?_
      rintro r w2 ⟨rfl, hb2⟩
      exact ⟨rfl, h.stay p1 t1.one (hy.trans (hb2.mono hy.size))⟩
  · have hm : mayB ⟨s.data.toList, md⟩ = true := by simpa using hm
    by_cases hz : (decide (s = ⟨#[122]⟩) && decide (md = 2)) = true
    · rw [Bool.and_eq_true, decide_eq_true_eq, decide_eq_true_eq] at hz
      obtain ⟨rfl, rfl⟩ := hz
      refine ⟨fun o v w1 => v = 0 ∧ UnP W e E L N UnR o w1, fun wx hb => ?_, fun o v w1 hp wy hy => ?_⟩
      · refine (Key_undo (R := fun o E' L' N' => UnR E L N o E' L' N' ∧ NewC W L N L' N') (hTb wx hb) (h.pg.on hb) fun w3 h3 => (Undo_pg ((h.pg.on hb).on h3)).mono ?_).mono ?_
        · rintro r w4 ⟨o, E', L', N', rfl, p1, t1, h1, h2⟩
          exact ⟨o, E', L', N', rfl, p1, t1, h1, h2.before (hb.trans (h3.mono hb.size))⟩
        · rintro r w4 ⟨o, E', L', N', rfl, p1, t1, h1, h2⟩
          have T := (Turn.of_below hb (C := fun j => j = e)).trans t1
          exact ⟨o, 0, rfl, ⟨rfl, E', L', N', p1, T, h1, h2⟩, T.one.own⟩
      · obtain ⟨rfl, E', L', N', p1, t1, h1, h2⟩ := hp
        have r1 := (h.ref t1.one).on hy
        refine (rKey_undo (Q := fun o w' => o = o ∧ ∃ w3, Below w1.heap.size w1 w3 ∧ RUr w3 g E.b E.x E.y L N Bk On o w') (hT wy (t1.one.own.trans (Turn.of_below hy))) r1 h.ok.1 hl.1 fun w3 h3 => (rUndo_pr (r1.on h3) (by omega) (by omega)).mono ?_).mono ?_
        · rintro r w4 ⟨o2, rfl, h4⟩
          exact ⟨o2, rfl, rfl, w3, hy.trans (h3.mono hy.size), h4⟩
        · rintro r w4 ⟨o2, rfl, _, w3, hb3, h4⟩
          have := pair_un h (p1.on hb3) (t1.trans (Turn.of_below hb3)) h1 h2 h4
          exact ⟨by rw [this.1], this.2⟩
    · by_cases hyz : ((decide (s = ⟨#[121]⟩) && decide (md = 2)) || (decide (s = ⟨#[122]⟩) && decide (md = 3))) = true
      · have mk : ∀ (s : ByteArray) (md : Nat),
            (∀ wx, Below W.heap.size W wx → Calls Tryz.prog 9 #[.pointer (some ⟨e, 0, none⟩), .agg #[.string s, .int .u8 (md : Int)]] wx fun r w' => ∃ o E' L' N', r = .returned (.tuple #[.bool o, .int .i64 0]) ∧ PgS w' e E' L' N' ∧ Turn (fun j => j = e) wx w' ∧ ReR E L N o E' L' N' ∧ NewC W L N L' N') →
            (∀ wy, Tabs wy → RdS wy 0 g E.b E.x E.y (stps L).reverse (stps N).reverse Bk On → Calls Tryz.prog 10 #[.pointer (some ⟨g, 0, none⟩), .agg #[.string s, .int .u8 (md : Int)]] wy fun r w' => ∃ o, r = .returned (.tuple #[.bool o, .int .i64 0]) ∧ ∃ w3, Below wy.heap.size wy w3 ∧ RRr w3 g E.b E.x E.y L N Bk On o w') →
            ∃ P : Bool → Int → World → Prop, KeyA W e g L N Bk On s md P := by
          intro s md hp1 hr1
          refine ⟨fun o v w1 => v = 0 ∧ UnP W e E L N ReR o w1, fun wx hb => (hp1 wx hb).mono ?_, fun o v w1 hp wy hy => ?_⟩
          · rintro r w4 ⟨o, E', L', N', rfl, p1, t1, h1, h2⟩
            have T := (Turn.of_below hb (C := fun j => j = e)).trans t1
            exact ⟨o, 0, rfl, ⟨rfl, E', L', N', p1, T, h1, h2⟩, T.one.own⟩
          · obtain ⟨rfl, E', L', N', p1, t1, h1, h2⟩ := hp
            refine (hr1 wy (hT wy (t1.one.own.trans (Turn.of_below hy))) ((h.ref t1.one).on hy)).mono ?_
            rintro r w4 ⟨o2, rfl, w3, hb3, h4⟩
            have hb4 := hy.trans (hb3.mono hy.size)
            have := pair_re h (p1.on hb4) (t1.trans (Turn.of_below hb4)) h1 h2 h4
            exact ⟨by rw [this.1], this.2⟩
        have prog : ∀ wx, Below W.heap.size W wx → ∀ w3, Below wx.heap.size wx w3 → Calls Tryz.prog 15 #[.pointer (some ⟨e, 0, none⟩)] w3 fun r w' => ∃ o E' L' N', r = .returned (.tuple #[.bool o, .int .i64 0]) ∧ PgS w' e E' L' N' ∧ Turn (fun j => j = e) w3 w' ∧ (ReR E L N o E' L' N' ∧ NewC W L N L' N') := fun wx hb w3 h3 =>
          (Redo_pg ((h.pg.on hb).on h3)).mono (by
            rintro r w4 ⟨o, E', L', N', rfl, p1, t1, h1, h2⟩
            exact ⟨o, E', L', N', rfl, p1, t1, h1, h2.before (hb.trans (h3.mono hb.size))⟩)
        have refr : ∀ wy, RdS wy 0 g E.b E.x E.y (stps L).reverse (stps N).reverse Bk On → ∀ w3, Below wy.heap.size wy w3 → Calls Tryz.prog 16 #[.pointer (some ⟨g, 0, none⟩)] w3 fun r w' => ∃ o, r = .returned (.bool o) ∧ ∃ w3, Below wy.heap.size wy w3 ∧ RRr w3 g E.b E.x E.y L N Bk On o w' := fun wy r1 w3 h3 =>
          (rRedo_pr (r1.on h3) (by omega) (by omega)).mono (by
            rintro r w4 ⟨o2, rfl, h4⟩
            exact ⟨o2, rfl, w3, h3, h4⟩)
        rw [Bool.or_eq_true, Bool.and_eq_true, Bool.and_eq_true, decide_eq_true_eq, decide_eq_true_eq, decide_eq_true_eq, decide_eq_true_eq] at hyz
        rcases hyz with ⟨rfl, rfl⟩ | ⟨rfl, rfl⟩
        · exact mk _ _ (fun wx hb => Key_redo (hTb wx hb) (h.pg.on hb) (prog wx hb)) (fun wy hTy r1 => rKey_redo hTy r1 h.ok.1 hl.1 (refr wy r1))
        · exact mk _ _ (fun wx hb => Key_again (hTb wx hb) (h.pg.on hb) (prog wx hb)) (fun wy hTy r1 => rKey_again hTy r1 h.ok.1 hl.1 (refr wy r1))
      · have hz : (decide (s = ⟨#[122]⟩) && decide (md = 2)) = false := by simpa using hz
        have hyz : ((decide (s = ⟨#[121]⟩) && decide (md = 2)) || (decide (s = ⟨#[122]⟩) && decide (md = 3))) = false := by
          cases h9 : ((decide (s = ⟨#[121]⟩) && decide (md = 2)) || (decide (s = ⟨#[122]⟩) && decide (md = 3))) with
          | false => rfl
          | true => exact absurd h9 hyz
        refine ⟨fun o v w1 => KPP W e E L N (keyE E.b E.x E.y s md) (.returned (.tuple #[.bool o, .int .i64 v])) w1, fun wx hb => (Key_pg (hTb wx hb) (h.pg.on hb) h.ok.1 hl.1 hl.2 s md hm hz hyz).mono fun r w1 hc => ?_, fun o v w1 hp wy hy => ?_⟩
        · have hc := hc.before hb
          obtain ⟨o, v, rfl⟩ := hc.ret
          exact ⟨o, v, rfl, hc, hc.turn.own⟩
        · have t1 := hp.turn
          refine (rKey_any (hT wy (t1.own.trans (Turn.of_below hy))) ((h.ref t1).on hy) (Nat.zero_le _) h.ok.1 hl.1 hl.2 (by omega) s md hm hz hyz).mono fun r w2 hr => ?_
          have hp' : KPP W e E L N (keyE E.b E.x E.y s md) (.returned (.tuple #[.bool o, .int .i64 v])) wy := hp.after hy
          have := pair_key h (fun x y hx => keyE_go h.ok hx W) (fun t lo hi he => keyE_ed h.ok he) hp' hr
          exact ⟨this.1.symm, this.2⟩
end
end Go.Proofs.YtcfgpmmclijonaaGreatDoor
