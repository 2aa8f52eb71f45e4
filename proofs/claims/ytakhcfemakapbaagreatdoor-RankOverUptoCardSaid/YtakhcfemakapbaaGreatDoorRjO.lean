/-
  RankPlays. Conditions: as stated.
-/
import Derived.Test.YtakhcfemakapbaaGreatDoorRjN
set_option maxRecDepth 100000
set_option linter.unusedSimpArgs false
set_option linter.unusedVariables false
namespace Go.Proofs.YtakhcfemakapbaaGreatDoor.RjO
open Go Go.RowKit Go.Shelf Go.Sort Go.Proofs.YtakhcfemakapbaaGreatDoor.Mem Go.Proofs.YtakhcfemakapbaaGreatDoor.DuA Go.Proofs.YtakhcfemakapbaaGreatDoor.DuM Go.Proofs.YtakhcfemakapbaaGreatDoor.DuN Go.Proofs.YtakhcfemakapbaaGreatDoor.NumA Go.Proofs.YtakhcfemakapbaaGreatDoor.NumC Go.Proofs.YtakhcfemakapbaaGreatDoor.NumE Go.Proofs.YtakhcfemakapbaaGreatDoor.RkA Go.Proofs.YtakhcfemakapbaaGreatDoor.RkC Go.Proofs.YtakhcfemakapbaaGreatDoor.RkB Go.Proofs.YtakhcfemakapbaaGreatDoor.RkE Go.Proofs.YtakhcfemakapbaaGreatDoor.RkF Go.Proofs.YtakhcfemakapbaaGreatDoor.RkH Go.Proofs.YtakhcfemakapbaaGreatDoor.RkI Go.Proofs.YtakhcfemakapbaaGreatDoor.RkL Go.Proofs.YtakhcfemakapbaaGreatDoor.RkM Go.Proofs.YtakhcfemakapbaaGreatDoor.RkN Go.Proofs.YtakhcfemakapbaaGreatDoor.RkO Go.Proofs.YtakhcfemakapbaaGreatDoor.RkP Go.Proofs.YtakhcfemakapbaaGreatDoor.RkW Go.Proofs.YtakhcfemakapbaaGreatDoor.RjJ Go.Proofs.YtakhcfemakapbaaGreatDoor.RjK Go.Proofs.YtakhcfemakapbaaGreatDoor.RjL Go.Proofs.YtakhcfemakapbaaGreatDoor.RjM Go.Proofs.YtakhcfemakapbaaGreatDoor.RjN

theorem pl_of {W w2 w3 : World} {g m N : Nat} {A : Option Addr} {c : Nat} {cur : List En} (h : Ps W w2 g m cur N) (o : OwnE w3 w2.heap.size (.slice A cur.length c) cur) (b : Below w2.heap.size w2 w3) (hg : Gd cur) : Pl W w3 g m N A c cur := by
  obtain ⟨v, hr⟩ := h.rk
  have ho : ∀ k, (Value.slice A 0 0).ownBlock = some k → w2.heap.size ≤ k ∧ k < w3.heap.size := fun k hk => o.lt k (by rw [ob A cur.length c 0 0]; exact hk)
  exact ⟨⟨v, hr.below b, fun k hk hs => by have := (hr.lt k hs).2; have := (ho k hk).1; omega⟩, fun k hk => (ho k hk).2, Rd.of_own o, hg, below_seq h.bel b⟩
theorem gd_ofL {l : List En} (h : Gd l) (hn : (l.map (·.2)).Nodup) : Gd (ofL l) := fun e he => h e ((of_facts hn).2.mem_iff.1 he)
instance : Inhabited RjM.Op := ⟨⟨0, ⟨#[]⟩, 0, 0, ⟨0, false, 0, ⟨#[]⟩⟩, ⟨0, false, 0, ⟨#[]⟩⟩, false⟩⟩
structure RdP (W : World) (A : Option Addr) (n c : Nat) (ds : List RjM.Op) : Prop where
  rd : Rd W 13 A n c (ds.flatMap opF)
  len : ds.length = n
  ok : ∀ x ∈ ds, opOK x ∧ x.name.size ≤ 1048576
theorem rdp_of {W : World} {A : Option Addr} {n c : Nat} {ds : List RjM.Op} (h : Rd W 13 A n c (ds.flatMap opF)) (hl : ds.length = n) (hok : ∀ x ∈ ds, opOK x) (hs : (ds.map opM).sum ≤ 1048576) : RdP W A n c ds :=
  ⟨h, hl, fun x hx => ⟨hok x hx, by
    have := LawR.mem_sum opM ds x hx
    have e : opM x = x.name.size + x.lo.name.size + x.hi.name.size + 16 := rfl
    omega⟩⟩
/-- A call's row in its place. -/
structure At (w : World) (q : Addr) (o : RjM.Op) : Prop where
  k0 : w.cell? q = some (.int .i64 o.kind)
  k1 : w.cell? ⟨q.block, q.off + 1, none⟩ = some (.string o.name)
  k2 : w.cell? ⟨q.block, q.off + 2, none⟩ = some (.int .i64 o.a)
  k3 : w.cell? ⟨q.block, q.off + 3, none⟩ = some (.int .i64 o.b)
  k4 : w.cell? ⟨q.block, q.off + 4, none⟩ = some (.int .i64 o.lo.inf)
  k5 : w.cell? ⟨q.block, q.off + 5, none⟩ = some (.bool o.lo.opn)
  k6 : w.cell? ⟨q.block, q.off + 6, none⟩ = some (.int .i64 o.lo.score)
  k7 : w.cell? ⟨q.block, q.off + 7, none⟩ = some (.string o.lo.name)
  k8 : w.cell? ⟨q.block, q.off + 8, none⟩ = some (.int .i64 o.hi.inf)
  k9 : w.cell? ⟨q.block, q.off + 9, none⟩ = some (.bool o.hi.opn)
  k10 : w.cell? ⟨q.block, q.off + 10, none⟩ = some (.int .i64 o.hi.score)
  k11 : w.cell? ⟨q.block, q.off + 11, none⟩ = some (.string o.hi.name)
  k12 : w.cell? ⟨q.block, q.off + 12, none⟩ = some (.bool o.turned)
theorem RdP.at_ {W : World} {A : Option Addr} {n c : Nat} {ds : List RjM.Op} (h : RdP W A n c ds) {w : World} (hb : Below W.heap.size W w) {i : Nat} {x : RjM.Op} (hx : ds[i]? = some x) :
    ∃ p, A = some p ∧ At w (p.add (i * 13)) x := by
  obtain ⟨p, rfl, hc⟩ := LawR.rd_at (f := opF) (fun _ => rfl) (h.rd.below hb) hx (by decide)
  exact ⟨p, rfl, ⟨hc 0 _ rfl, hc 1 _ rfl, hc 2 _ rfl, hc 3 _ rfl, hc 4 _ rfl, hc 5 _ rfl, hc 6 _ rfl, hc 7 _ rfl, hc 8 _ rfl, hc 9 _ rfl, hc 10 _ rfl, hc 11 _ rfl, hc 12 _ rfl⟩⟩
set_option maxHeartbeats 2000000 in
theorem plays_calls (A : Option Addr) (n c : Nat) (l : List En) (As : Option Addr) (ns cs : Nat) (ds : List RjM.Op) (W : World) (hr : RdE W A n c l) (hg : Gd l) (hn : n ≤ 1048576) (hp : RdP W As ns cs ds) (hns : ns ≤ 1048576) (hL : Laid W) :
    Calls Tryz.prog 4 #[.slice A n c, .slice As ns cs] W fun e w' => e = .returned (.bool true) ∧ Below W.heap.size W w' := by
  obtain rfl := rde_len hr
  obtain rfl := hp.len
  have htw := twin_calls A l.length c l W hr (sm hn)
  have hcap := hp.rd.cap
  have hbig : cs ≤ 9223372036854775807 := hp.rd.big
  have HR := Lib.hid (And.intro hr (And.intro hg.ok hL))
  have HN := Lib.hid (sm hn)
  have HG := Lib.hid hg
  have HD := Lib.hid hp
  clear hr hg hL hp
  by_cases hS : allS l
  · by_cases hD : (l.map (·.2)).Nodup
    · have HSD := Lib.hid (And.intro hS hD)
      have HLL : Hid ((ofL l).length = l.length) := len_ofL hD
      clear hS hD
      go_enter Tryz.func4, Tryz.ntmps4
      go_wp2_with fail
      refine htw.mono ?_
      clear htw
      rintro e w1 ⟨v1, rfl, o1, b1⟩
      obtain ⟨A1, c1, rfl, r1⟩ := own_rd o1
      have h := of_ok A1 l.length c1 l w1 r1 HR.out.2.1 HN.out HSD.out.1 HSD.out.2
      have HB1 := Lib.hid b1
      clear o1 r1 b1
      go_wp2_with fail
      refine Calls.mono h ?_
      clear h
      rintro e w2 ⟨g, m, rfl, P2⟩
      have HP2 := Lib.hid (Ps.base P2 HB1.out)
      clear P2
      have h := ofR_ok A l.length c l w2 HN.out HSD.out.1 HSD.out.2 (HR.out.1.below HP2.out.bel)
      go_wp2_with fail
      refine Calls.mono h ?_
      clear h
      rintro e w3 ⟨v3, rfl, o3, b3⟩
      obtain ⟨A3, c3, rfl⟩ := own_form o3
      have HP3 := Lib.hid (pl_of HP2.out o3 b3 (gd_ofL HG.out HSD.out.2))
      clear o3 b3
      go_wp2_with fail
      go_loopw [7, 9] (fun mv i wr => ∃ (k : Nat) (A' : Option Addr) (c' : Nat) (cur : List En), k ≤ ds.length ∧ i = .int .i64 k ∧ mv = .slice A' cur.length c' ∧ Hid (Pl W wr g m (l.length + k) A' c' cur)) (fun _ i _ => ds.length - (intOf i).toNat)
      case atStart => exact ⟨0, A3, c3, ofL l, Nat.zero_le _, rfl, rfl, HP3⟩
      case round =>
        clear HP3
        obtain ⟨k, A', c', cur, hk, rfl, rfl, HP⟩ := hrel
        have HCL := Lib.hid HP.out.len
        by_cases hlt : k < ds.length
        · obtain ⟨x, hx⟩ : ∃ x, ds[k]? = some x := ⟨_, List.getElem?_eq_getElem hlt⟩
          obtain ⟨p, rfl, hat⟩ := HD.out.at_ HP.out.bel hx
          obtain ⟨hxo, hxn⟩ := HD.out.ok x (List.mem_of_getElem? hx)
          have hst := step_calls HP.out x hxo hxn (by have := HN.out; omega)
          obtain ⟨k0, k1, k2, k3, k4, k5, k6, k7, k8, k9, k10, k11, k12⟩ := hat
          have HST := Lib.hid hst
          clear hx hxo hxn hst
          go_wp2_with fail
          refine HST.out.mono ?_
          rintro e w4 ⟨A4, c4, cur4, rfl, P4⟩
          have HP4 := Lib.hid P4
          have hl4 := P4.ps.len
          clear k0 k1 k2 k3 k4 k5 k6 k7 k8 k9 k10 k11 k12 P4 HST
          go_wp2_with fail
          refine Calls.mono hl4 ?_
          clear hl4
          rintro e w5 ⟨rfl, rfl⟩
          go_wp2_with fail
          exact ⟨⟨k + 1, A4, c4, cur4, by omega, by go_num, rfl, HP4⟩, by simp [intOf]; omega⟩
        · obtain rfl : k = ds.length := by omega
          have hli := HP.out.ps.list (by have := HN.out; omega)
          go_wp2_with fail
          refine Calls.mono hli ?_
          clear hli
          rintro e w4 ⟨v4, rfl, o4, b4⟩
          obtain ⟨A4, c4, rfl, r4⟩ := own_rd o4
          have HP4 := Lib.hid (HP.out.below b4)
          have h := same_true A4 A' _ c4 _ c' cur cur w4 r4 HP4.out.rd (by have := HN.out; have := HCL.out; omega) rfl
          clear o4 b4 r4
          go_wp2_with fail
          refine Calls.mono h ?_
          clear h
          rintro e w5 ⟨rfl, b5⟩
          have HP5 := Lib.hid (HP4.out.below b5)
          have h := sure_calls w5 (HR.out.2.2.below HP5.out.bel)
          clear b5
          go_wp2_with fail
          refine Calls.mono h ?_
          clear h
          rintro e w6 ⟨rfl, b6⟩
          go_wp2_with fail
          go_ret
          exact ⟨rfl, below_seq HP5.out.bel b6⟩
    · have HSD := Lib.hid (And.intro hS hD)
      clear hS hD
      go_enter Tryz.func4, Tryz.ntmps4
      go_wp2_with fail
      refine htw.mono ?_
      clear htw
      rintro e w1 ⟨v1, rfl, o1, b1⟩
      obtain ⟨A1, c1, rfl, r1⟩ := own_rd o1
      have h := of_twice A1 l.length c1 l w1 HR.out.2.1 HN.out HSD.out.1 HSD.out.2 r1
      have HB1 := Lib.hid b1
      clear o1 r1 b1
      go_wp2_with fail
      refine Calls.mono h ?_
      clear h
      rintro e w2 ⟨rfl, b2⟩
      have HB2 := Lib.hid (below_seq HB1.out b2)
      clear b2
      have h := ofR_twice A l.length c l w2 HN.out HSD.out.1 HSD.out.2 (HR.out.1.below HB2.out)
      go_wp2_with fail
      refine Calls.mono h ?_
      clear h
      rintro e w3 ⟨rfl, b3⟩
      have HB3 := Lib.hid (below_seq HB2.out b3)
      clear b3
      have h := sure_calls w3 (HR.out.2.2.below HB3.out)
      go_wp2_with fail
      refine Calls.mono h ?_
      clear h
      rintro e w8 ⟨rfl, b8⟩
      go_wp2_with fail
      go_ret
      exact ⟨rfl, below_seq HB3.out b8⟩
  · have HSD := Lib.hid hS
    clear hS
    go_enter Tryz.func4, Tryz.ntmps4
    go_wp2_with fail
    refine htw.mono ?_
    clear htw
    rintro e w1 ⟨v1, rfl, o1, b1⟩
    obtain ⟨A1, c1, rfl, r1⟩ := own_rd o1
    have h := of_bad A1 l.length c1 l w1 r1 HR.out.2.1 HN.out HSD.out
    have HB1 := Lib.hid b1
    clear o1 r1 b1
    go_wp2_with fail
    refine Calls.mono h ?_
    clear h
    rintro e w2 ⟨rfl, b2⟩
    have HB2 := Lib.hid (below_seq HB1.out b2)
    clear b2
    have h := ofR_bad A l.length c l w2 HN.out HSD.out (HR.out.1.below HB2.out)
    go_wp2_with fail
    refine Calls.mono h ?_
    clear h
    rintro e w3 ⟨rfl, b3⟩
    have HB3 := Lib.hid (below_seq HB2.out b3)
    clear b3
    have h := sure_calls w3 (HR.out.2.2.below HB3.out)
    go_wp2_with fail
    refine Calls.mono h ?_
    clear h
    rintro e w8 ⟨rfl, b8⟩
    go_wp2_with fail
    go_ret
    exact ⟨rfl, below_seq HB3.out b8⟩
theorem plays_law (A : Option Addr) (n c : Nat) (z : List (ByteArray × Int)) (As : Option Addr) (ns cs : Nat) (ds : List RjM.Op) (W : World) (hr : Rd W 2 A n c (z.flatMap scF)) (hl : z.length = n) (h1 : ∀ x ∈ z, scOK x) (h2 : (z.map scM).sum ≤ 1048576)
    (hr' : Rd W 13 As ns cs (ds.flatMap opF)) (hl' : ds.length = ns) (h1' : ∀ x ∈ ds, opOK x) (h2' : (ds.map opM).sum ≤ 1048576) (hL : Laid W) :
    Calls Tryz.prog 4 #[.slice A n c, .slice As ns cs] W fun e w' => e = .returned (.bool true) ∧ Below W.heap.size W w' :=
  plays_calls A n c (toEn z) As ns cs ds W (rd_of hr) (gd_of h2) (by rw [← hl]; exact len_of h2) (rdp_of hr' hl' h1' h2') (by rw [← hl']; exact Nat.le_trans (LawR.len_sum opM (fun x => by unfold opM; omega) ds) h2') hL
end Go.Proofs.YtakhcfemakapbaaGreatDoor.RjO
