/-
  What the law on rows of calls keeps: the list as the document has it, the dict that tells it. Conditions: as stated.
-/
import Derived.Test.YthgdkmbcibfehaaDoorDcM
import Derived.Test.YthgdkmbcibfehaaDoorLawR
set_option maxRecDepth 100000
set_option linter.unusedSimpArgs false
set_option linter.unusedVariables false
namespace Go.Proofs.YthgdkmbcibfehaaDoor.DcN
open Go.RowKit Go.Proofs.YthgdkmbcibfehaaDoor.Mem Go.Proofs.YthgdkmbcibfehaaDoor.NumA Go.Proofs.YthgdkmbcibfehaaDoor.NumB Go.Proofs.YthgdkmbcibfehaaDoor.NumE Go.Proofs.YthgdkmbcibfehaaDoor.DcA Go.Proofs.YthgdkmbcibfehaaDoor.DcB Go.Proofs.YthgdkmbcibfehaaDoor.DcC Go.Proofs.YthgdkmbcibfehaaDoor.DcD Go.Proofs.YthgdkmbcibfehaaDoor.DcE Go.Proofs.YthgdkmbcibfehaaDoor.DcF Go.Proofs.YthgdkmbcibfehaaDoor.DcG Go.Proofs.YthgdkmbcibfehaaDoor.DcI Go.Proofs.YthgdkmbcibfehaaDoor.DcJ Go.Proofs.YthgdkmbcibfehaaDoor.DcK Go.Proofs.YthgdkmbcibfehaaDoor.DcL Go.Proofs.YthgdkmbcibfehaaDoor.DcM

abbrev OpD := Int × ByteArray × ByteArray × Int
def opF (o : OpD) : List Value := [.int .i64 o.1, .string o.2.1, .string o.2.2.1, .int .i64 o.2.2.2]
def opM (o : OpD) : Nat := o.2.1.size + o.2.2.1.size + 5
def opOK (o : OpD) : Prop := inR o.2.2.2
def fF (f : Fld) : List Value := [.string f.1, .string f.2]
def fM (f : Fld) : Nat := f.1.size + f.2.size + 3
def fOK (f : Fld) : Prop := f.1.size ≤ maxLen
theorem fF_flds (l : List Fld) : l.flatMap fF = flds l := rfl
/-- Names and values within bounds. -/
def Gd (l : List Fld) : Prop := ∀ f ∈ l, f.1.size ≤ 1048600 ∧ f.2.size ≤ 1048600
theorem Gd.of_sum {l : List Fld} (h : (l.map fM).sum ≤ 1048576) : Gd l := fun f hf => by
  have := LawR.mem_sum fM l f hf
  have e : fM f = f.1.size + f.2.size + 3 := rfl
  omega
theorem Gd.ok {l : List Fld} (h : Gd l) : ∀ f ∈ l, okk f.1 ∧ okk f.2 := fun f hf => by
  obtain ⟨h1, h2⟩ := h f hf
  unfold okk maxLen; omega
theorem Gd.set {l : List Fld} (h : Gd l) {k v : ByteArray} (hk : k.size ≤ 1048600) (hv : v.size ≤ 1048600) : Gd (setL l k v) := fun f hf => by
  rcases set_mem hf with rfl | hf
  · exact ⟨hk, hv⟩
  · exact h f hf
theorem Gd.drop {l : List Fld} (h : Gd l) (k : ByteArray) : Gd (dropL l k) := fun f hf => h f (drop_sub hf)
theorem Gd.inc {l : List Fld} (h : Gd l) {k : ByteArray} (hk : k.size ≤ 1048600) (n : Int) : Gd (incL l k n) := by
  unfold incL
  split
  · exact h
  · split
    · rename_i hr
      exact h.set hk (Nat.le_trans (txt_le hr) (by decide))
    · exact h
theorem Gd.get {l : List Fld} (h : Gd l) (hr : Ris l) {k s : ByteArray} (hs : getL l k = some s) : s.size ≤ 1048600 := (h _ ((get_mem hr k s).1 hs)).2
theorem rd_dc {w w' : World} {A : Option Addr} {n c B g m N : Nat} {l k : List Fld} (hr : RdF w A n c k) (h : Dc w B g m l N) (ho : Only (fun b => b = m) w w') : RdF w' A n c k :=
  ⟨hr.len, hr.cap, hr.big, fun j x hx => by
    obtain ⟨ad, e, hc⟩ := hr.get j x hx
    refine ⟨ad, e, ho.cell hc (fun e2 => ?_)⟩
    obtain ⟨D, ⟨es, clock, hb, _⟩, _⟩ := h.mp
    rw [← e2] at hb
    simp only [World.cell?, hb] at hc
    cases hc⟩
theorem inc_len_le {l : List Fld} (hr : Ris l) (k : ByteArray) (n : Int) : (incL l k n).length ≤ l.length + 1 := by
  unfold incL
  split
  · omega
  · split
    · rw [set_len l hr]; split <;> omega
    · omega
/-- Between two calls. -/
structure Pl (W wr : World) (g m N : Nat) (A : Option Addr) (c : Nat) (cur : List Fld) : Prop where
  dc : Dc wr W.heap.size g m cur N
  rd : RdF wr A cur.length c cur
  gd : Gd cur
  bel : Below W.heap.size W wr
section
variable {W wr w' : World} {g m N : Nat} {A A' : Option Addr} {c c' n' : Nat} {cur l' : List Fld}
theorem Pl.below (h : Pl W wr g m N A c cur) (hb : Below wr.heap.size wr w') : Pl W w' g m N A c cur := ⟨h.dc.below hb, h.rd.below hb, h.gd, below_seq h.bel hb⟩
/-- The document's list is another one, then the dict is turned. -/
theorem Pl.turn (h : Pl W wr g m N A c cur) {w1 : World} (hb : Below wr.heap.size wr w1) (r' : RdF w1 A' n' c' l') (hg : Gd l') {N' : Nat} (d' : Dc w' W.heap.size g m l' N') (ho : Only (fun b => b = m) w1 w') : Pl W w' g m N' A' c' l' := by
  have e := rdf_len r'
  have h1 := h.dc.below hb
  exact ⟨d', by rw [e]; exact rd_dc r' h1 ho, hg, dc_keep h1 (below_seq h.bel hb) (Nat.le_refl _) ho⟩
theorem Pl.more (h : Pl W wr g m N A c cur) {N' : Nat} (hN : N ≤ N') : Pl W wr g m N' A c cur := ⟨DcC.more h.dc hN, h.rd, h.gd, h.bel⟩
theorem Pl.len (h : Pl W wr g m N A c cur) : cur.length ≤ N := h.dc.len
theorem Pl.laid (h : Pl W wr g m N A c cur) (hL : Laid W) : Laid wr := hL.below h.bel
end
structure RdP (W : World) (A : Option Addr) (n c : Nat) (ds : List OpD) : Prop where
  rd : Rd W 4 A n c (ds.flatMap opF)
  len : ds.length = n
  ok : ∀ x ∈ ds, inR x.2.2.2 ∧ x.2.1.size ≤ 1048576 ∧ x.2.2.1.size ≤ 1048576
theorem rdp_of {W : World} {A : Option Addr} {n c : Nat} {ds : List OpD} (h : Rd W 4 A n c (ds.flatMap opF)) (hl : ds.length = n) (hok : ∀ x ∈ ds, opOK x) (hs : (ds.map opM).sum ≤ 1048576) : RdP W A n c ds :=
  ⟨h, hl, fun x hx => ⟨hok x hx, by
    have := LawR.mem_sum opM ds x hx
    have e : opM x = x.2.1.size + x.2.2.1.size + 5 := rfl
    omega, by
    have := LawR.mem_sum opM ds x hx
    have e : opM x = x.2.1.size + x.2.2.1.size + 5 := rfl
    omega⟩⟩
theorem RdP.at_ {W : World} {A : Option Addr} {n c : Nat} {ds : List OpD} (h : RdP W A n c ds) {w : World} (hb : Below W.heap.size W w) {i : Nat} {x : OpD} (hx : ds[i]? = some x) :
    ∃ p, A = some p ∧ w.cell? (p.add (i * 4)) = some (.int .i64 x.1) ∧ w.cell? ⟨(p.add (i * 4)).block, (p.add (i * 4)).off + 1, none⟩ = some (.string x.2.1) ∧ w.cell? ⟨(p.add (i * 4)).block, (p.add (i * 4)).off + 2, none⟩ = some (.string x.2.2.1) ∧ w.cell? ⟨(p.add (i * 4)).block, (p.add (i * 4)).off + 3, none⟩ = some (.int .i64 x.2.2.2) := by
  obtain ⟨p, rfl, hc⟩ := LawR.rd_at (f := opF) (fun _ => rfl) (h.rd.below hb) hx (by decide)
  exact ⟨p, rfl, hc 0 _ rfl, hc 1 _ rfl, hc 2 _ rfl, hc 3 _ rfl⟩
end Go.Proofs.YthgdkmbcibfehaaDoor.DcN
