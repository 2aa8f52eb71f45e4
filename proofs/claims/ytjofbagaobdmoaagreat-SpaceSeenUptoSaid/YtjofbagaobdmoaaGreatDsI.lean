/-
  An Index's Drop. Conditions: as stated.
-/
import Derived.Test.YtjofbagaobdmoaaGreatDsH
import Derived.StillTailTactics
set_option maxRecDepth 100000
set_option linter.unusedSimpArgs false
set_option linter.unusedVariables false
namespace Go.Proofs.YtjofbagaobdmoaaGreat.DsI
open Go.RowKit Go.Shelf Go.Proofs.YtjofbagaobdmoaaGreat.Mem Go.Proofs.YtjofbagaobdmoaaGreat.DuA Go.Proofs.YtjofbagaobdmoaaGreat.DuM Go.Proofs.YtjofbagaobdmoaaGreat.DuN Go.Proofs.YtjofbagaobdmoaaGreat.DuB Go.Proofs.YtjofbagaobdmoaaGreat.DsC Go.Proofs.YtjofbagaobdmoaaGreat.DsD Go.Proofs.YtjofbagaobdmoaaGreat.DsE Go.Proofs.YtjofbagaobdmoaaGreat.DsF Go.Proofs.YtjofbagaobdmoaaGreat.DsG Go.Proofs.YtjofbagaobdmoaaGreat.DsH

/-- What a call that turns an Index leaves. -/
def Turn (B g m : Nat) (v : Value) (l' : List (Int × ByteArray)) (N : Nat) (w w' : World) : Prop :=
  ∃ v', Ix w' B g m v' l' N ∧ Only (IxS g m v) w w' ∧ (v'.ownBlock = v.ownBlock ∨ ∃ k, v'.ownBlock = some k ∧ w.heap.size ≤ k)
theorem Turn.refl {w : World} {B g m N : Nat} {v : Value} {l : List (Int × ByteArray)} (h : Ix w B g m v l N) : Turn B g m v l N w w := ⟨v, h, Only.refl _ _, .inl rfl⟩
theorem srt_drop {l : List (Int × ByteArray)} {k : ByteArray} (h : Srt ltS l) : Srt ltS (dropL l k) := h.drop k
theorem mem_drop {l : List (Int × ByteArray)} {k : ByteArray} {e : Int × ByteArray} (h : e ∈ dropL l k) : e ∈ l := (List.mem_filter.1 h).1

theorem ob (A : Option Addr) (n c n' c' : Nat) : (.slice A n c : Value).ownBlock = (.slice A n' c' : Value).ownBlock := by cases A <;> rfl
theorem only_b {S : Nat → Prop} {w w' : World} (h : Below w.heap.size w w') : Only S w w' := ⟨h.os, h.tape, h.output, h.size, fun k hk _ => h.block k hk⟩
theorem put_cells {w : World} {g : Nat} {a b u : Value} (h : w.heap[g]? = some (.cells #[a, b] 128 (0, 0))) : (w.setCell ⟨g, 1, none⟩ u).heap[g]? = some (.cells #[a, u] 128 (0, 0)) := by
  rw [heap_setCell_same w g 1 _ _ _ h]; rfl

set_option maxHeartbeats 4000000 in
theorem drop_calls (B g m : Nat) (v : Value) (l : List (Int × ByteArray)) (N : Nat) (k : ByteArray) (w : World) (h : Ix w B g m v l N) (hk : okk k) (hB : B ≤ w.heap.size) (hN : N ≤ 1099511627776) :
    Calls Tryz.prog 82 #[.pointer (some ⟨g, 0, none⟩), .string k] w fun e w' => e = .returned (.bool (dueL l k).isSome) ∧ Turn B g m v (dropL l k) N w w' := by
  obtain ⟨c0, -, -⟩ := h.cells
  have hlk := h.look hk
  rcases hd : dueL l k with _ | t
  · rw [hd] at hlk
    have hid : dropL l k = l := drop_id (due_none.1 hd)
    rw [hid]
    go_enter Tryz.func82, Tryz.ntmps82
    go_wp2_with fail
    go_ret
    exact ⟨rfl, Turn.refl h⟩
  · rw [hd] at hlk
    have hm := (due_some h.srt.one).1 hd
    obtain ⟨p1, p2⟩ := pos_at linS h.srt hm
    obtain ⟨A, c, rfl⟩ := own_form h.own
    have hr : RdE w A l.length c l := Rd.of_own h.own
    obtain ⟨i, hi⟩ : ∃ i, posL ltS l (t, k) = i := ⟨_, rfl⟩
    rw [hi] at p1 p2
    have hil : i < l.length := (List.getElem?_eq_some_iff.1 p1).1
    have hlN := h.len
    have hsr := search_calls A l.length c l (t, k) w hr h.srt.ord (by omega)
    rw [hi] at hsr
    have P2 : Hid (dropL l k = l.take i ++ l.drop (i + 1)) := p2
    clear p1 p2 hi hd hm
    obtain ⟨n, hn⟩ : ∃ n, l.length = n := ⟨_, rfl⟩
    have c1 : w.cell? ⟨g, 1, none⟩ = some (.slice A l.length c) := h.cells.2.1
    rw [hn] at hil hlN hsr c1
    have HN := Lib.hid hn
    clear hr
    have hlk' : (Instr.lookup 125 (.map (some m)) (Value.string k) true).run Tryz.prog w = .ok (.tuple #[.int .i64 t, .bool true]) w := hlk
    clear hlk
    go_enter Tryz.func82, Tryz.ntmps82
    go_wp2_with fail
    refine hsr.mono ?_
    rintro e w1 ⟨b, rfl, b1⟩
    have h1 := h.below b1
    have O1 : Only (IxS g m (.slice A n c)) w w1 := only_b b1
    have c1' : w1.cell? ⟨g, 1, none⟩ = some (.slice A n c) := by rw [← HN.out]; exact h1.cells.2.1
    clear c0 c1 hlk' hsr
    go_wp2_with fail
    have ho1 : OwnE w1 B (.slice A n c) l := by rw [← HN.out]; exact h1.own
    refine (delete_calls B n c i A l w1 ho1 hil).mono ?_
    rintro e w2 ⟨rfl, o2, O2⟩
    have gv := h.vg
    have mv := h.vm
    have gm := h.gm
    rw [HN.out] at gv mv
    have hp2 := O2.heap h1.hp (fun e => gv e)
    rw [HN.out] at hp2
    have c20 : w2.cell? ⟨g, 0, none⟩ = some (.map (some m)) := by unfold World.cell?; simp only [hp2]; rfl
    have c21 : w2.cell? ⟨g, 1, none⟩ = some (.slice A n c) := by unfold World.cell?; simp only [hp2]; rfl
    have f21 : w2.frozen? ⟨g, 1, none⟩ = false := by unfold World.frozen?; simp only [hp2]; rfl
    have hp3 := put_cells (u := .slice A (n - 1) c) hp2
    have c30 : (w2.setCell ⟨g, 1, none⟩ (.slice A (n - 1) c)).cell? ⟨g, 0, none⟩ = some (.map (some m)) := by unfold World.cell?; simp only [hp3]; rfl
    obtain ⟨D, hM1, hT⟩ := h1.mp
    have O3 : Only (fun k => k = g) w2 (w2.setCell ⟨g, 1, none⟩ (.slice A (n - 1) c)) := (Only.refl (fun k => k = g) w2).put (p := ⟨g, 1, none⟩) (.inl rfl) _
    have hM3 : Mp (w2.setCell ⟨g, 1, none⟩ (.slice A (n - 1) c)) m N D := by
      obtain ⟨es, clock, hb, F, hn, hD⟩ := hM1
      exact ⟨es, clock, O3.heap (O2.heap hb (fun e => mv e)) (fun e => gm e.symm), F, hn, hD⟩
    have o3 : OwnE (w2.setCell ⟨g, 1, none⟩ (.slice A (n - 1) c)) B (.slice A (n - 1) c) (l.take i ++ l.drop (i + 1)) := own_only o2 O3 (fun k hk e => gv (by rw [← e, ← hk]; exact ob _ _ _ _ _))
    have O13 : Only (IxS g m (.slice A n c)) w (w2.setCell ⟨g, 1, none⟩ (.slice A (n - 1) c)) :=
      (O1.trans O2 (fun b hb => .inl (.inr (.inr hb)))).trans O3 (fun b hb => .inl (.inl hb))
    clear c1' O1 O2 O3 hM1 hp2 b1
    go_wp2_with (at_delete; refine wpList_delete_own _ rfl _ _ 125 9 rfl 3 keyed Tryz.underlying125 _ m N D rfl hM3 _ _ rfl (key_of hk) ?_; intro w3 hown3 hturn3)
    go_ret
    have O4 := Only.of_grown hturn3.grown
    have hp4 := O4.heap hp3 (fun e => by injection e with e; exact gm e.symm)
    have o4 := own_only o3 O4 (fun k hk e => by injection e with e; exact mv (by rw [e, ← hk]; exact ob _ _ _ _ _))
    rw [← P2.out] at o4
    refine ⟨rfl, .slice A (n - 1) c, ⟨hp4, ⟨_, hown3, hT.del keyS h.srt.one k⟩, ?_, h.gB, h.mB, gm, (by rw [ob A (n - 1) c n c]; exact gv), (by rw [ob A (n - 1) c n c]; exact mv), srt_drop h.srt, ?_, fun e he => h.rng e (mem_drop he), fun e he => h.kok e (mem_drop he)⟩, ?_, .inl (ob _ _ _ _ _)⟩
    · exact o4
    · have := drop_len l k; have := h.len; omega
    · rw [HN.out]
      exact O13.trans O4 (fun b hb => .inl (.inr (.inl (by injection hb with hb; exact hb.symm))))
end Go.Proofs.YtjofbagaobdmoaaGreat.DsI
