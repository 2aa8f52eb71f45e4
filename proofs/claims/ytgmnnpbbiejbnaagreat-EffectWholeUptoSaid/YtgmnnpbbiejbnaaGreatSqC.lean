/-
  sort.Strings at a row of the call's own; the names of a space, rising. Conditions: as stated.
  The names of a space, rising. Conditions: as stated.
  The keys that were touched, rising. Conditions: as stated.
  Clear: all keys are let go. Conditions: as stated.
  Keys, Len. Conditions: as stated.
-/
import Derived.Test.YtgmnnpbbiejbnaaGreatSqB
import Derived.Shelf.Lay
import Derived.Shelf.Sort.Plain
import Derived.Shelf.Slices.In.SortNone2
import Derived.Sort.OwnSorted
import Derived.Sort.KeysCollected
import Derived.Test.YtgmnnpbbiejbnaaGreatMgF
set_option maxRecDepth 100000
set_option linter.unusedSimpArgs false
set_option linter.unusedVariables false
namespace Go.Proofs
open Go.Shelf
shelf_lay Lays.n192 Nm 192 at Tryz as YtgmnnpbbiejbnaaGreat.sortStr
end Go.Proofs
namespace Go.Proofs.YtgmnnpbbiejbnaaGreat.SpJ
open Go.RowKit Go.Proofs.YtgmnnpbbiejbnaaGreat.Mem Go.Proofs.YtgmnnpbbiejbnaaGreat.VaC Go.Proofs.YtgmnnpbbiejbnaaGreat.VaE Go.Proofs.YtgmnnpbbiejbnaaGreat.VaH Go.Proofs.YtgmnnpbbiejbnaaGreat.VaI Go.Proofs.YtgmnnpbbiejbnaaGreat.VaX Go.Proofs.YtgmnnpbbiejbnaaGreat.DuA Go.Proofs.YtgmnnpbbiejbnaaGreat.SpA Go.Proofs.YtgmnnpbbiejbnaaGreat.SpB Go.Proofs.YtgmnnpbbiejbnaaGreat.SpC Go.Proofs.YtgmnnpbbiejbnaaGreat.SpD Go.Proofs.YtgmnnpbbiejbnaaGreat.SpE Go.Proofs.YtgmnnpbbiejbnaaGreat.SpF Go.Proofs.YtgmnnpbbiejbnaaGreat.SpG Go.Proofs.YtgmnnpbbiejbnaaGreat.SpH Go.Proofs.YtgmnnpbbiejbnaaGreat.SpI
open Go.Proofs.YtgmnnpbbiejbnaaGreat.DsH (Ix IxS okk keyed key_of)
open Go.Proofs.YtgmnnpbbiejbnaaGreat.DsK (OwnKs keysV elKs)
open Go.Proofs (encStr)

def toB (a : ByteArray) : List UInt8 := a.data.toList
theorem enc_keys (l : List ByteArray) : (l.map toB).map encStr = keysV l := by
  unfold keysV
  rw [List.map_map]
  refine List.map_congr_left (fun a _ => ?_)
  show encStr (toB a) = _
  simp [encStr, toB]
theorem bl_eq : ∀ (x y : List UInt8), Op.bytesLess x y = decide (x < y)
  | [], [] => by simp [Op.bytesLess]
  | _ :: _, [] => by simp [Op.bytesLess]
  | [], _ :: _ => by simp [Op.bytesLess]
  | a :: x, b :: y => by
    rw [Op.bytesLess, bl_eq x y]
    simp only [List.cons_lt_cons_iff]
    by_cases h1 : a < b <;> by_cases h2 : a = b <;> by_cases h3 : x < y <;> simp [h1, h2, h3]
theorem lt_le {a b : ByteArray} (h : DuB.ltS a b = true) : toB a ≤ toB b := by
  unfold DuB.ltS at h
  rw [bl_eq, decide_eq_true_eq, ByteArray.toList_eq, ByteArray.toList_eq] at h
  exact List.le_of_lt h
theorem sorted_names {l d : List ByteArray} (hr : l.Pairwise (fun x y => DuB.ltS x y = true)) (hp : d.Perm l) : (d.map toB).mergeSort (fun x y => decide (x ≤ y)) = l.map toB := by
  rw [show (d.map toB).mergeSort (fun x y => decide (x ≤ y)) = (l.map toB).mergeSort (fun x y => decide (x ≤ y)) from mergeSort_of_perm (hp.map toB)]
  refine List.mergeSort_of_pairwise ?_
  rw [List.pairwise_map]
  exact hr.imp (fun h => decide_eq_true (lt_le h))
theorem sort_calls (B : Nat) (v : Value) (d l : List ByteArray) (w : World) (ho : OwnKs w B v d) (hr : l.Pairwise (fun x y => DuB.ltS x y = true)) (hp : d.Perm l) (hn : d.length ≤ 1000000000) :
    Calls Tryz.prog 78 #[v] w fun e w' => e = .returned (.tuple #[]) ∧ OwnKs w' B v l ∧ Only (fun k => v.ownBlock = some k) w w' := by
  have hl := hp.length_eq
  unfold OwnKs at ho
  rcases ho.2 with ⟨rfl, h0⟩ | ⟨g, cap, cur, rfl, hbase, hb, h1, h2, h3, h4⟩
  · have hl0 : l = [] := List.eq_nil_of_length_eq_zero (by omega)
    subst hl0
    refine (Any.sort_Strings_none sortStr none 0 w).mono ?_
    rintro e w' ⟨rfl, rfl⟩
    exact ⟨rfl, World.ownsRow_nil .., Only.refl _ _⟩
  · have hlen : (d.map toB).length = d.length := List.length_map ..
    have h4' : cur.toList.take (d.map toB).length = (d.map toB).map encStr := by rw [enc_keys, hlen]; simpa using h4
    have hc := Any.sort_Strings sortStr g 0 cap (d.map toB) w (holds_of_block hb h4') (Array.getElem?_eq_some_iff.1 hb).1 (by rw [hlen]; omega)
    rw [hlen, sorted_names hr hp] at hc
    refine hc.mono ?_
    rintro e w' ⟨rfl, n, os, rfl⟩
    have hs := ownsRow_sorted (w := w) (n := n) (os := os) (e := 9) (ss := d.map toB) (ts := l.map toB) (by simp [hl]) hbase hb (by rw [hlen]; exact h1) h2 h3
    rw [hlen, enc_keys, hl] at hs
    refine ⟨rfl, ?_, Only.of_grown (grownBy_sorted _)⟩
    rw [hl]
    exact hs
end Go.Proofs.YtgmnnpbbiejbnaaGreat.SpJ
set_option maxRecDepth 100000
set_option linter.unusedSimpArgs false
set_option linter.unusedVariables false
namespace Go.Proofs.YtgmnnpbbiejbnaaGreat.SpK
open Go.RowKit Go.Proofs.YtgmnnpbbiejbnaaGreat.Mem Go.Proofs.YtgmnnpbbiejbnaaGreat.VaC Go.Proofs.YtgmnnpbbiejbnaaGreat.VaE Go.Proofs.YtgmnnpbbiejbnaaGreat.VaH Go.Proofs.YtgmnnpbbiejbnaaGreat.VaI Go.Proofs.YtgmnnpbbiejbnaaGreat.VaX Go.Proofs.YtgmnnpbbiejbnaaGreat.DuA Go.Proofs.YtgmnnpbbiejbnaaGreat.SpA Go.Proofs.YtgmnnpbbiejbnaaGreat.SpB Go.Proofs.YtgmnnpbbiejbnaaGreat.SpC Go.Proofs.YtgmnnpbbiejbnaaGreat.SpD Go.Proofs.YtgmnnpbbiejbnaaGreat.SpE Go.Proofs.YtgmnnpbbiejbnaaGreat.SpF Go.Proofs.YtgmnnpbbiejbnaaGreat.SpG Go.Proofs.YtgmnnpbbiejbnaaGreat.SpH Go.Proofs.YtgmnnpbbiejbnaaGreat.SpI Go.Proofs.YtgmnnpbbiejbnaaGreat.SpJ
open Go.Proofs.YtgmnnpbbiejbnaaGreat.DsH (Ix IxS okk keyed key_of)
open Go.Proofs.YtgmnnpbbiejbnaaGreat.DsK (OwnKs keysV elKs)

theorem str_invK (key : Value) (kl : Lit) (h : keyOf Tryz.prog 9 key = some kl) : ∃ x : ByteArray, key = .string x := by
  obtain ⟨x, rfl, _⟩ := str_keyS h
  exact ⟨x, rfl⟩
theorem tk_invV (v : Value) (y : DV × List MemPlace) (h : tk v = some y) : ∃ c : Value, v = c := ⟨v, rfl⟩
def keysL (l : List (ByteArray × PH)) : List ByteArray := l.map (·.1)
/-- Keys as they are collected: l' what has been told. -/
structure Got (w0 wr : World) (m r N : Nat) (D : DV) (L : VL) (v : Value) (cnt : Nat) : Prop where
  ex : ∃ (left : Lit → Bool) (out : VL), wr.ranges Tryz.prog 9 tk m r N D left cnt ∧ out.length + cnt ≤ L.length ∧ Coll L out left ∧ OwnKs wr w0.heap.size v (out.map (·.1))
  ne : v.ownBlock ≠ some r
  sz : r < wr.heap.size
  bel : Below w0.heap.size w0 wr
theorem own_ks_len {w : World} {B : Nat} {v : Value} {l : List ByteArray} (h : OwnKs w B v l) {n : Nat} (hn : l.length = n) : w.ownsRow B 9 1 v n (keysV l) := by subst hn; exact h
/-- A key is laid behind. -/
theorem got_next {w0 w4 w6 : World} {m r N cnt cnt4 : Nat} {D : DV} {L : VL} {A : Option Addr} {n c : Nat} {v6 : Value} {x : ByteArray} {y : Value} {kl : Lit} {left : Lit → Bool} {out : VL} (hT : TellsV D L) (hr : Ris lt L) (hm : m < w0.heap.size) (hw0 : w0.heap.size ≤ r)
    (hco : Coll L out left) (hcn : out.length + cnt ≤ L.length) (ho4 : OwnKs w4 w0.heap.size (.slice A n c) (out.map (·.1))) (hb4 : Below w0.heap.size w0 w4) (hsz : r < w4.heap.size)
    (hkl : kl = DuB.klS x) (hlk : left kl = true) (hat : ∀ zd, D.atKey kl zd = .held y) (hrg4 : w4.ranges Tryz.prog 9 tk m r N D (fun z => left z && !z.sameKey kl) cnt4) (hlt : cnt4 < cnt)
    (h6 : w6.ownsRow w0.heap.size 9 1 v6 (n + 1) (keysV (out.map (·.1)) ++ [.string x])) (f6 : Only (fun k => (Value.slice A n c).ownBlock = some k) w4 w6) (n6 : v6.ownBlock = (Value.slice A n c).ownBlock ∨ ∃ k, v6.ownBlock = some k ∧ w4.heap.size ≤ k) (hne : (Value.slice A n c).ownBlock ≠ some r) (hn : n = out.length) :
    Got w0 w6 m r N D L v6 cnt4 := by
  subst hkl
  have hmm : ∀ k, (Value.slice A n c).ownBlock = some k → w0.heap.size ≤ k := fun k hk => (ho4.lt k hk).1
  obtain ⟨hco', _⟩ := hco.next hT hr hlk hat
  refine ⟨⟨_, out ++ [(x, y)], hrg4.kept f6.grown (fun e => by have := hmm m e.symm; omega) (fun e => hne e.symm), by simp; omega, hco', ?_⟩, ?_, Nat.lt_of_lt_of_le hsz f6.size, f6.after hb4 (Nat.le_refl _) hmm⟩
  · unfold OwnKs
    rw [List.map_append, List.length_append, List.length_map]
    have e1 : keysV (out.map (·.1) ++ List.map (·.1) [(x, y)]) = keysV (out.map (·.1)) ++ [.string x] := by simp [keysV]
    rw [e1, ← hn]
    exact h6
  · rcases n6 with n6 | ⟨k, e, hge⟩
    · rw [n6]; exact hne
    · rw [e]; intro e'; injection e' with e'; omega
set_option maxHeartbeats 4000000 in
theorem names_calls (B : Nat) (F : Lay) (N : Nat) (s : PS) (w : World) (h : Sp w B F N s) (hN : N ≤ 1000000000) :
    Calls Tryz.prog 51 #[.pointer (some ⟨F.g, 0, none⟩)] w fun e w' => ∃ v, e = .returned v ∧ OwnKs w' w.heap.size v (keysL s.l) ∧ Below w.heap.size w w' := by
  obtain ⟨c0, -, -, -, -, -, -⟩ := h.cells
  obtain ⟨L, hmm, htt⟩ := h.sq.mp
  have hlen := hmm.length Tryz.underlying86 3
  have hLl := htt.len hmm.ris h.inv.ris
  have hLk := htt.keys hmm.ris h.inv.ris
  have hLN := hmm.len
  have hml := hmm.lt
  have hrs := hmm.ris
  obtain ⟨D, hM, hT⟩ := hmm.mp
  obtain ⟨i, HI⟩ := elKs.info
  have HHI := Lib.hid HI
  have HM := Lib.hid hM
  have HT := Lib.hid (And.intro hT (And.intro hrs (And.intro hLk (And.intro hLl h))))
  obtain ⟨n, hn⟩ : ∃ n, L.length = n := ⟨_, rfl⟩
  have HLn := Lib.hid hn
  rw [hn] at hlen hLN
  have hgl := h.glt
  clear hmm htt hM hT HI h hLl hLk hn hrs
  go_enter Tryz.func51, Tryz.ntmps51
  go_wp2_with (first
    | (at_make; refine wpList_make_own _ rfl (.const (.int .i64 0)) (.tmp 9) 38 rfl w.heap.size 9 i (.string ⟨#[]⟩) 1 elKs.ht HHI.out.1 HHI.out.2.1 HHI.out.2.2.1 .i64 .i64 _ n rfl rfl rfl (by rw [HHI.out.2.2.2]; omega) (by unfold maxLen; omega) (Nat.le_refl _) ?_; intro w1 o1 g1; have b1 : Below w.heap.size w w1 := ⟨g1.os, g1.tape, g1.output, g1.size, fun k hk => g1.block k hk (by simp)⟩; have d0 : w1.cell? ⟨F.g, 0, none⟩ = some (.map (some F.m)) := (Only.of_below b1).cell c0 (by simp; omega))
    | (at_range; refine wpList_range_own _ rfl _ 86 rfl 9 97 keyed Tryz.underlying86 tk F.m N D rfl (HM.out.kept g1 (by simp)) ?_; intro w3 r3 g3 s3))
  have g0 : Got w w3 F.m w1.heap.size N D L (.slice (some ⟨w.heap.size, 0, none⟩) 0 n) (Maps.size D) := by
    have hs1 : w.heap.size < w1.heap.size := (o1.lt _ rfl).2
    refine ⟨⟨_, [], r3, by rw [HT.out.1.size]; simp, Coll.start HT.out.1, own_only o1 (S := fun _ => False) ⟨g3.os, g3.tape, g3.output, g3.size, fun k hk _ => g3.block k hk (by simp)⟩ (fun _ _ h => h)⟩, ?_, by omega, b1.trans ⟨g3.os, g3.tape, g3.output, g3.size, fun k hk => g3.block k (by omega) (by simp)⟩⟩
    intro e
    injection e with e
    simp at e
    omega
  have hr1 : w.heap.size ≤ w1.heap.size := b1.size
  obtain ⟨r, hr⟩ : ∃ r, w1.heap.size = r := ⟨_, rfl⟩
  rw [hr] at g0 hr1
  go_frame
  rw [hr]
  have G0 := Lib.hid g0
  clear r3 g3 s3 o1 g1 b1 d0 c0 hr g0 hlen
  go_loopw [3] (fun v wr => ∃ cnt, Got w wr F.m r N D L v cnt) (fun _ wr => wr.rangeLeft F.m r)
  case atStart => exact ⟨_, G0.out⟩
  case round =>
    clear G0
    obtain ⟨cnt, hG⟩ := hrel
    obtain ⟨⟨left, out, hrg, hcn, hco, ho⟩, hne, hsz, hb⟩ := hG
    obtain ⟨A, c, rfl⟩ := own_form ho
    rw [List.length_map] at ho hne ⊢
    have Hst := Lib.hid (And.intro hco (And.intro hcn (And.intro ho (And.intro hne (And.intro hsz hb)))))
    clear hco hcn ho hne hsz hb
    go_wp2_with (at_next; refine wpList_next_ranges _ rfl _ rfl 9 keyed tk Value.string (fun v : Value => v) str_invK tk_invV F.m r N D left cnt rfl hrg ?_ ?_)
    · intro hc0 hl0
      obtain ⟨hco, hcn, ho, hne, hsz, hb⟩ := Hst.out
      have hp := hco.done HT.out.2.1 hl0
      have hpk := hp.map (·.1)
      rw [HT.out.2.2.1] at hpk
      have hlo : out.length ≤ 1000000000 := by rw [hp.length_eq, HLn.out]; omega
      have hrk : (keysL s.l).Pairwise (fun x y => DuB.ltS x y = true) := by
        have := HT.out.2.2.2.2.inv.ris
        unfold Ris at this
        unfold keysL
        rw [List.pairwise_map]
        exact this
      have hsrt := sort_calls w.heap.size (.slice A out.length c) (out.map (·.1)) (keysL s.l) wr ho hrk hpk (by rw [List.length_map]; exact hlo)
      have Hs := Lib.hid (And.intro hb (fun k hk => (ho.lt k hk).1 : ∀ k, (Value.slice A out.length c).ownBlock = some k → w.heap.size ≤ k))
      clear hco hcn ho hne hsz hb hp hpk hlo hrk hrg
      go_wp2_with fail
      refine hsrt.mono ?_
      rintro e w5 ⟨rfl, o5, O5⟩
      have H5 := Lib.hid (And.intro o5 (O5.after Hs.out.1 (Nat.le_refl _) Hs.out.2))
      clear o5 O5
      go_wp2_with fail
      go_ret
      exact ⟨_, rfl, H5.out.1, H5.out.2⟩
    · intro x y kl z ps w4 cnt4 hkx hlk hRv hat hrg4 hlt4 hgr4 hsz4 hen
      obtain ⟨hco, hcn, ho, hne, hsz, hb⟩ := Hst.out
      obtain ⟨x', ex, hkl, -⟩ := str_keyS hkx
      injection ex with ex
      subst ex
      have hz : z = .held y := by unfold tk at hRv; injection hRv with hRv; exact (congrArg Prod.fst hRv).symm
      have O4 : Only (fun b => some r = some b) wr w4 := Only.of_grown hgr4
      have ho4 : OwnKs w4 w.heap.size (.slice A out.length c) (out.map (·.1)) := own_only ho O4 (fun k hk e => hne (by rw [hk, e]))
      have hb4 : Below w.heap.size w w4 := O4.after hb (Nat.le_refl _) (fun k hk => by injection hk with hk; omega)
      have H4 := Lib.hid (And.intro hco (And.intro hcn (And.intro ho4 (And.intro hb4 (And.intro (show r < w4.heap.size by omega) (And.intro hkl (And.intro hlk (And.intro (fun zd => (hat zd).trans hz) (And.intro hrg4 (And.intro hlt4 (And.intro hne hrg)))))))))))
      have hol : out.length + 1 ≤ 1000000001 := by have := HLn.out; omega
      have ho4' := Lib.hid (own_ks_len ho4 (List.length_map ..))
      have hsz5 := hb4.size
      clear hco hcn ho hne hsz hb hkl hlk hz hat hrg4 hlt4 hgr4 O4 ho4 hb4 hrg hkx hRv hsz4
      go_wp2_with (at_builtin; refine wpList_app1 (w := w4) rfl (.tmp 20) (.tmp 22) elKs rfl w.heap.size (.slice A out.length c) out.length (keysV (out.map (·.1))) rfl ho4'.out (.string x) rfl rfl (by unfold maxLen; omega) (by omega) hsz5 ?_; intro v6 w6 o6 f6 n6)
      obtain ⟨hco, hcn, ho4, hb4, hsz, hkl, hlk, hat, hrg4, hlt4, hne, hrg⟩ := H4.out
      have hG := got_next HT.out.1 HT.out.2.1 hml hr1 hco hcn ho4 hb4 hsz hkl hlk hat hrg4 hlt4 o6 f6 n6 hne rfl
      obtain ⟨_, _, hrg6, _⟩ := hG.ex
      refine ⟨⟨cnt4, hG⟩, ?_⟩
      rw [hrg6.left_eq, hrg.left_eq]
      exact hlt4
end Go.Proofs.YtgmnnpbbiejbnaaGreat.SpK
set_option maxRecDepth 100000
set_option linter.unusedSimpArgs false
set_option linter.unusedVariables false
namespace Go.Proofs.YtgmnnpbbiejbnaaGreat.SpL
open Go.RowKit Go.Proofs.YtgmnnpbbiejbnaaGreat.Mem Go.Proofs.YtgmnnpbbiejbnaaGreat.VaC Go.Proofs.YtgmnnpbbiejbnaaGreat.VaE Go.Proofs.YtgmnnpbbiejbnaaGreat.VaH Go.Proofs.YtgmnnpbbiejbnaaGreat.VaI Go.Proofs.YtgmnnpbbiejbnaaGreat.VaX Go.Proofs.YtgmnnpbbiejbnaaGreat.DuA Go.Proofs.YtgmnnpbbiejbnaaGreat.SpA Go.Proofs.YtgmnnpbbiejbnaaGreat.SpB Go.Proofs.YtgmnnpbbiejbnaaGreat.SpC Go.Proofs.YtgmnnpbbiejbnaaGreat.SpD Go.Proofs.YtgmnnpbbiejbnaaGreat.SpE Go.Proofs.YtgmnnpbbiejbnaaGreat.SpF Go.Proofs.YtgmnnpbbiejbnaaGreat.SpG Go.Proofs.YtgmnnpbbiejbnaaGreat.SpH Go.Proofs.YtgmnnpbbiejbnaaGreat.SpI Go.Proofs.YtgmnnpbbiejbnaaGreat.SpJ Go.Proofs.YtgmnnpbbiejbnaaGreat.SpK
open Go.Proofs.YtgmnnpbbiejbnaaGreat.DsH (Ix IxS okk keyed key_of)
open Go.Proofs.YtgmnnpbbiejbnaaGreat.DsK (OwnKs keysV elKs)

end Go.Proofs.YtgmnnpbbiejbnaaGreat.SpL
set_option maxRecDepth 100000
set_option linter.unusedSimpArgs false
set_option linter.unusedVariables false
namespace Go.Proofs.YtgmnnpbbiejbnaaGreat.SpM
open Go.RowKit Go.Proofs.YtgmnnpbbiejbnaaGreat.Mem Go.Proofs.YtgmnnpbbiejbnaaGreat.VaC Go.Proofs.YtgmnnpbbiejbnaaGreat.VaE Go.Proofs.YtgmnnpbbiejbnaaGreat.VaH Go.Proofs.YtgmnnpbbiejbnaaGreat.VaI Go.Proofs.YtgmnnpbbiejbnaaGreat.VaX Go.Proofs.YtgmnnpbbiejbnaaGreat.DuA Go.Proofs.YtgmnnpbbiejbnaaGreat.SpA Go.Proofs.YtgmnnpbbiejbnaaGreat.SpB Go.Proofs.YtgmnnpbbiejbnaaGreat.SpC Go.Proofs.YtgmnnpbbiejbnaaGreat.SpD Go.Proofs.YtgmnnpbbiejbnaaGreat.SpE Go.Proofs.YtgmnnpbbiejbnaaGreat.SpF Go.Proofs.YtgmnnpbbiejbnaaGreat.SpG Go.Proofs.YtgmnnpbbiejbnaaGreat.SpH Go.Proofs.YtgmnnpbbiejbnaaGreat.SpI Go.Proofs.YtgmnnpbbiejbnaaGreat.SpJ Go.Proofs.YtgmnnpbbiejbnaaGreat.SpK Go.Proofs.YtgmnnpbbiejbnaaGreat.SpL
open Go.Proofs.YtgmnnpbbiejbnaaGreat.DsH (Ix IxS okk keyed key_of)
open Go.Proofs.YtgmnnpbbiejbnaaGreat.DsK (OwnKs RdKs keysV elKs)

theorem ks_get {w : World} {A : Option Addr} {n c : Nat} {l : List ByteArray} (h : RdKs w A n c l) {i : Nat} {k : ByteArray} (hi : l[i]? = some k) : ∃ p, A = some p ∧ w.cell? (p.add i) = some (.string k) := by
  obtain ⟨p, e, hc⟩ := h.get i (.string k) (by unfold keysV; rw [List.getElem?_map, hi]; rfl)
  exact ⟨p, e, hc⟩
theorem gone_cnt : ∀ (l : List ByteArray) (s : PS), (l.foldl goneP s).cnt = s.cnt + l.length
  | [], s => rfl
  | k :: r, s => by rw [List.foldl_cons, gone_cnt r]; show s.cnt + 1 + r.length = _; simp; omega
theorem gone_ch : ∀ (l : List ByteArray) (s : PS), (l.foldl goneP s).ch = s.ch
  | [], s => rfl
  | k :: r, s => by rw [List.foldl_cons, gone_ch r]; rfl
theorem gone_snoc (l : List ByteArray) (s : PS) {i : Nat} {k : ByteArray} (h : l[i]? = some k) : (l.take (i + 1)).foldl goneP s = goneP ((l.take i).foldl goneP s) k := by
  obtain ⟨hi, e⟩ := List.getElem?_eq_some_iff.1 h
  rw [List.take_succ_eq_append_getElem hi, List.foldl_append, e]
  rfl
set_option maxHeartbeats 4000000 in
theorem clear_calls (B : Nat) (F : Lay) (N : Nat) (s : PS) (w : World) (h : Sp w B F N s) (hX : ∀ k, F.X k → k < w.heap.size) (hN : N ≤ 400000000) (hc : s.cnt ≤ 4611686068427387903) (hch : s.ch.length ≤ 1000000000) :
    Calls Tryz.prog 50 #[.pointer (some ⟨F.g, 0, none⟩)] w fun e w' => e = .returned (.int .i64 s.l.length) ∧ ∃ F', Sp w' B F' (N + s.l.length) (clearS s) ∧ Moves F F' w w' := by
  have hnm := names_calls B F N s w h (by omega)
  obtain ⟨K, hK⟩ : ∃ K, keysL s.l = K := ⟨_, rfl⟩
  rw [hK] at hnm
  have hKl : s.l.length = K.length := by rw [← hK]; unfold keysL; simp
  have hKs : ∀ k ∈ K, k.size ≤ 100000000 := by
    intro k hk
    rw [← hK] at hk
    obtain ⟨e, he, rfl⟩ := List.mem_map.1 hk
    exact h.inv.key e he
  have hKN : K.length ≤ N := by
    obtain ⟨L, hm, ht⟩ := h.sq.mp
    have := hm.len
    rw [ht.len hm.ris h.inv.ris] at this
    omega
  have hcl : clearS s = if K = [] then s else noteP (K.foldl goneP s) ⟨4, ⟨#[]⟩, pv0, 0⟩ := by
    unfold clearS
    rw [← hK]
    unfold keysL
    by_cases e : s.l = []
    · rw [if_pos e, if_pos (by rw [e]; rfl)]
    · rw [if_neg e, if_neg (fun e' => e (by simpa using e'))]
  obtain ⟨sF, hsF⟩ : ∃ sF, (if K = [] then s else noteP (K.foldl goneP s) ⟨4, ⟨#[]⟩, pv0, 0⟩) = sF := ⟨_, rfl⟩
  obtain ⟨n, hn⟩ : ∃ n, K.length = n := ⟨_, rfl⟩
  rw [hcl, hKl, hsF, hn]
  have HsF := Lib.hid hsF
  have HN := Lib.hid hn
  rw [hn] at hKN
  have H := Lib.hid (And.intro h (And.intro hKs (And.intro hK hKl)))
  clear h hKs hcl hK hKl hsF hn
  go_enter Tryz.func50, Tryz.ntmps50
  go_wp2_with fail
  refine hnm.mono ?_
  rintro e w1 ⟨v, rfl, ho, b1⟩
  obtain ⟨h, hKs, hK, hKl⟩ := H.out
  have h1 := h.below b1
  obtain ⟨A, c, rfl⟩ := own_form ho
  have hr : RdKs w1 A K.length c K := Rd.of_own ho
  have hnb : ∀ ad, A = some ad → ¬ Ft F ad.block := fun ad e hF => by
    have := (ho.lt ad.block (by rw [e]; rfl)).1
    have := (h.lt _ hF).2
    omega
  have hnl : ∀ ad, A = some ad → ad.block < w1.heap.size := fun ad e => (ho.lt ad.block (by rw [e]; rfl)).2
  have hB1 : B ≤ w1.heap.size := by have := h1.lt F.g (.inl rfl); omega
  rw [HN.out] at hr ⊢
  have hcap := hr.cap
  have H1 := Lib.hid (And.intro h1 (And.intro hr (And.intro hnb (And.intro hnl (And.intro hKs (Moves.below (F := F) b1))))))
  have hX1 : ∀ k, F.X k → k < w1.heap.size := fun k e => Nat.lt_of_lt_of_le (hX k e) b1.size
  clear h hKs hK hKl ho h1 hr hnb hnl H hX
  go_wp2_with fail
  go_loopw [12] (fun i wr => ∃ (k : Nat) (Fk : Lay), k ≤ n ∧ i = .int .i64 k ∧ Sp wr B Fk (N + k) ((K.take k).foldl goneP s) ∧ Moves F Fk w1 wr) (fun i _ => n - (intOf i).toNat)
  case atStart => exact ⟨0, F, Nat.zero_le _, rfl, H1.out.1, Moves.refl _ _⟩
  case round =>
    obtain ⟨k, Fk, hk, rfl, hS, hM⟩ := hrel
    by_cases hlt : k < n
    · obtain ⟨x, hx⟩ : ∃ x, K[k]? = some x := ⟨_, List.getElem?_eq_getElem (by rw [HN.out]; exact hlt)⟩
      obtain ⟨h1, hr, hnb, hnl, hKs, M1⟩ := H1.out
      obtain ⟨p, rfl, cx⟩ := ks_get hr hx
      have cx' := hM.only.cell cx (by rw [add_block]; exact hnb p rfl)
      have hxs := hKs x (List.mem_of_getElem? hx)
      have hcn : ((K.take k).foldl goneP s).cnt ≤ 4611686218427387904 := by rw [gone_cnt, List.length_take]; omega
      have hBr : B ≤ wr.heap.size := Nat.le_trans hB1 hM.only.size
      have htc := touch_calls B Fk (N + k) _ x wr hS hxs (by omega) hcn
      rw [hM.g] at htc
      have HS := Lib.hid (And.intro hM (And.intro hBr (And.intro hx hxs)))
      have hkn : ((k : Nat) : Int) < (n : Int) := by omega
      clear h1 hr hnb hnl hKs M1 cx hS hM hcn hBr hx hxs
      go_wp2_with fail
      refine htc.mono ?_
      rintro e w2 ⟨rfl, h2, o2⟩
      obtain ⟨hM, hBr, hx, hxs⟩ := HS.out
      have hfc := free_calls B Fk (N + k + 1) _ x w2 h2 hxs (by omega) (Nat.le_trans hBr o2.size)
      rw [hM.g] at hfc
      have HM2 := Lib.hid (hM.trans ⟨o2, fun q h => .inl h, rfl, rfl⟩)
      clear h2 o2 hM hBr hx hxs htc
      go_wp2_with fail
      refine hfc.mono ?_
      rintro e w3 ⟨rfl, F3, h3, M3⟩
      have M := HM2.out.trans M3
      have HF := Lib.hid (And.intro h3 M)
      clear h3 M3 M hfc
      go_wp2_with fail
      go_roundw
      case rel =>
        obtain ⟨h3, M⟩ := HF.out
        obtain ⟨hM, hBr, hx, hxs⟩ := HS.out
        exact ⟨k + 1, F3, by omega, by go_num, by rw [gone_snoc K s hx]; exact h3, M⟩
      case measure => simp [intOf]; omega
    · obtain rfl : k = n := by omega
      obtain ⟨h1, hr, hnb, hnl, hKs, M1⟩ := H1.out
      rw [List.take_of_length_le (by rw [HN.out]; exact Nat.le_refl _)] at hS
      have hMM := M1.trans hM
      by_cases h0 : k = 0
      · subst h0
        have hK0 : K = [] := List.eq_nil_of_length_eq_zero HN.out
        have HF := Lib.hid (And.intro hS (And.intro hMM hK0))
        clear hS hM hMM h1 hr hnb hnl hKs M1 hK0
        go_wp2_with fail
        go_ret
        obtain ⟨hS, hMM, hK0⟩ := HF.out
        rw [hK0] at hS
        exact ⟨rfl, Fk, by rw [← HsF.out, if_pos hK0]; exact hS, hMM⟩
      · have hch' : (K.foldl goneP s).ch.length ≤ 1000000000 := by rw [gone_ch]; exact hch
        have hnt := note_calls B Fk (N + k) _ ⟨4, ⟨#[]⟩, vv0, 0⟩ wr hS (Nat.le_trans hB1 hM.only.size) (vok0 wr (fun _ => False)).rd (vok0 wr (fun _ => False)).sm (fun q e => by rw [hM.x] at e; exact Nat.lt_of_lt_of_le (hX1 q e) hM.only.size) hch'
        rw [hM.g] at hnt
        have e3 : peOf ⟨4, ⟨#[]⟩, vv0, 0⟩ = ⟨4, ⟨#[]⟩, pv0, 0⟩ := rfl
        rw [e3] at hnt
        unfold evV vv0 at hnt
        simp only at hnt
        have hKn : K ≠ [] := fun e => h0 (by rw [← HN.out, e]; rfl)
        have HF := Lib.hid (And.intro hMM hKn)
        have hk0 : (0 : Int) < (k : Int) := by omega
        clear hS hM hMM h1 hr hnb hnl hKs M1 hKn h0
        go_wp2_with fail
        refine hnt.mono ?_
        rintro e w5 ⟨rfl, F5, h5, M5⟩
        go_wp2_with fail
        go_ret
        obtain ⟨hMM, hKn⟩ := HF.out
        exact ⟨rfl, F5, by rw [← HsF.out, if_neg hKn]; exact h5, hMM.trans M5⟩
end Go.Proofs.YtgmnnpbbiejbnaaGreat.SpM
set_option maxRecDepth 100000
set_option linter.unusedSimpArgs false
set_option linter.unusedVariables false
namespace Go.Proofs.YtgmnnpbbiejbnaaGreat.SpN
open Go.RowKit Go.Proofs.YtgmnnpbbiejbnaaGreat.Mem Go.Proofs.YtgmnnpbbiejbnaaGreat.VaC Go.Proofs.YtgmnnpbbiejbnaaGreat.VaE Go.Proofs.YtgmnnpbbiejbnaaGreat.VaH Go.Proofs.YtgmnnpbbiejbnaaGreat.VaI Go.Proofs.YtgmnnpbbiejbnaaGreat.VaX Go.Proofs.YtgmnnpbbiejbnaaGreat.DuA Go.Proofs.YtgmnnpbbiejbnaaGreat.SpA Go.Proofs.YtgmnnpbbiejbnaaGreat.SpB Go.Proofs.YtgmnnpbbiejbnaaGreat.SpC Go.Proofs.YtgmnnpbbiejbnaaGreat.SpD Go.Proofs.YtgmnnpbbiejbnaaGreat.SpE Go.Proofs.YtgmnnpbbiejbnaaGreat.SpF Go.Proofs.YtgmnnpbbiejbnaaGreat.SpG Go.Proofs.YtgmnnpbbiejbnaaGreat.SpH Go.Proofs.YtgmnnpbbiejbnaaGreat.SpI Go.Proofs.YtgmnnpbbiejbnaaGreat.SpJ Go.Proofs.YtgmnnpbbiejbnaaGreat.SpK Go.Proofs.YtgmnnpbbiejbnaaGreat.SpL Go.Proofs.YtgmnnpbbiejbnaaGreat.SpM
open Go.Proofs.YtgmnnpbbiejbnaaGreat.DsH (Ix IxS okk keyed key_of)
open Go.Proofs.YtgmnnpbbiejbnaaGreat.DsK (OwnKs RdKs keysV elKs)
attribute [local go_sem] fld_due fld_ver

def keepK (s : PS) (now : Int) (k : ByteArray) : Bool := !overB ((getK s.l k).getD ph0).due now
def keysP (s : PS) (now : Int) : List ByteArray := (keysL s.l).filter (keepK s now)
end Go.Proofs.YtgmnnpbbiejbnaaGreat.SpN
