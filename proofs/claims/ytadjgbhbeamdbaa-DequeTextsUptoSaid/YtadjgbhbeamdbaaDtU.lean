/-
  Plain law: what is done to texts is what is done to their numbers; and what a round of DequeTexts carries. Conditions: as stated.
-/
import Derived.Test.YtadjgbhbeamdbaaDtT
import Derived.Test.YtadjgbhbeamdbaaDqX
import Derived.Test.YtadjgbhbeamdbaaDqW
import Derived.Test.YtadjgbhbeamdbaaDqZ
set_option maxRecDepth 100000
set_option linter.unusedSimpArgs false
set_option linter.unusedVariables false
namespace Go.Proofs.Ytadjgbhbeamdbaa.DtU
open Go.RowKit Go.Proofs.Ytadjgbhbeamdbaa.Mem Go.Proofs.Ytadjgbhbeamdbaa.NumB

abbrev InL (l : List Int) : Prop := ∀ x ∈ l, inR x
abbrev tx (l : List Int) : List ByteArray := l.map txt

theorem tx_len (l : List Int) : (tx l).length = l.length := List.length_map ..
theorem txt_iff {a b : Int} (ha : inR a) (hb : inR b) : txt a = txt b ↔ a = b := ⟨DtT.txt_inj ha hb, fun e => by rw [e]⟩
theorem piece_tx (l : List Int) (f t : Int) : DtC.pieceL (tx l) f t = tx (DqC.pieceL l f t) := by
  unfold DtC.pieceL DqC.pieceL
  rw [tx_len, ← List.map_take, ← List.map_drop]; rfl
theorem rm_tx {v : Int} (hv : inR v) : ∀ (l : List Int) (m : Int), InL l → DtF.rmF (txt v) (tx l) m = tx (DqF.rmF v l m)
  | [], m, _ => rfl
  | x :: r, m, h => by
    have hx := h x (List.mem_cons_self ..)
    have hr : InL r := fun y hy => h y (List.mem_cons_of_mem _ hy)
    have he := txt_iff hx hv
    show DtF.rmF (txt v) (txt x :: tx r) m = _
    unfold DtF.rmF DqF.rmF
    by_cases c : x = v ∧ 0 < m
    · rw [if_pos c, if_pos ⟨he.2 c.1, c.2⟩]; exact rm_tx hv r (m - 1) hr
    · rw [if_neg c, if_neg (fun e => c ⟨he.1 e.1, e.2⟩)]
      show _ = txt x :: tx (DqF.rmF v r m)
      rw [rm_tx hv r m hr]
theorem remove_tx {v : Int} (hv : inR v) (l : List Int) (count : Int) (hl : InL l) : DtF.removeL (tx l) count (txt v) = tx (DqF.removeL l count v) := by
  have hm : DtF.mostN = DqF.mostN := rfl
  unfold DtF.removeL DqF.removeL
  rw [tx_len, hm]
  by_cases c : count < 0
  · rw [if_pos c, if_pos c]
    show (DtF.rmF (txt v) (l.map txt).reverse _).reverse = (List.map txt _)
    rw [← List.map_reverse, rm_tx hv _ _ (fun x hx => hl x (List.mem_reverse.1 hx)), ← List.map_reverse]
  · rw [if_neg c, if_neg c, rm_tx hv _ _ hl]
theorem ins_tx (l : List Int) (i : Nat) (x : Int) : DtH.insAt (tx l) i (txt x) = tx (DqH.insAt l i x) := by
  unfold DtH.insAt DqH.insAt
  simp [tx]
theorem mem_tx {l : List Int} {p : Int} (hl : InL l) (hp : inR p) : txt p ∈ tx l ↔ p ∈ l := by
  unfold tx
  rw [List.mem_map]
  exact ⟨fun ⟨a, ha, e⟩ => by rw [← (txt_iff (hl a ha) hp).1 e]; exact ha, fun h => ⟨p, h, rfl⟩⟩
theorem get_tx {l : List Int} {p : Int} {i : Nat} (hl : InL l) (hp : inR p) (h : (tx l)[i]? = some (txt p)) : l[i]? = some p := by
  rw [List.getElem?_map] at h
  obtain ⟨a, ha, e⟩ := Option.map_eq_some_iff.1 h
  rw [ha, (txt_iff (hl a (List.mem_of_getElem? ha)) hp).1 e]
theorem first_one {l : List Int} {p : Int} {i j : Nat} (h1 : l[i]? = some p) (h2 : p ∉ l.take i) (h3 : l[j]? = some p) (h4 : p ∉ l.take j) : i = j := by
  rcases Nat.lt_trichotomy i j with h | h | h
  · exact absurd (List.mem_of_getElem? (l := l.take j) (i := i) (by rw [List.getElem?_take, if_pos h]; exact h1)) h4
  · exact h
  · exact absurd (List.mem_of_getElem? (l := l.take i) (i := j) (by rw [List.getElem?_take, if_pos h]; exact h3)) h2
theorem in_piece {l : List Int} (h : InL l) (f t : Int) : InL (DqC.pieceL l f t) := fun x hx => h x (List.mem_of_mem_take (List.mem_of_mem_drop hx))
theorem in_rm {l : List Int} (v : Int) (h : InL l) (m : Int) : InL (DqF.rmF v l m) := by
  induction l generalizing m with
  | nil => intro x hx; cases hx
  | cons y r ih =>
    unfold DqF.rmF
    split
    · exact ih (fun x hx => h x (List.mem_cons_of_mem _ hx)) _
    · intro x hx
      rcases List.mem_cons.1 hx with rfl | hx
      · exact h _ (List.mem_cons_self ..)
      · exact ih (fun x hx => h x (List.mem_cons_of_mem _ hx)) _ x hx
theorem in_rev {l : List Int} (h : InL l) : InL l.reverse := fun x hx => h x (List.mem_reverse.1 hx)
theorem in_remove {l : List Int} (v : Int) (h : InL l) (count : Int) : InL (DqF.removeL l count v) := by
  unfold DqF.removeL
  split
  · exact in_rev (in_rm v (in_rev h) _)
  · exact in_rm v h _
theorem in_ins {l : List Int} {x : Int} (h : InL l) (hx : inR x) (i : Nat) : InL (DqH.insAt l i x) := by
  intro y hy
  unfold DqH.insAt at hy
  rcases List.mem_append.1 hy with hy | hy
  · exact h y (List.mem_of_mem_take hy)
  · rcases List.mem_cons.1 hy with rfl | hy
    · exact hx
    · exact h y (List.mem_of_mem_drop hy)
theorem in_app {l k : List Int} (h : InL l) (h2 : InL k) : InL (l ++ k) := fun x hx => (List.mem_append.1 hx).elim (h x) (h2 x)
theorem in_take {l : List Int} (h : InL l) (n : Nat) : InL (l.take n) := fun x hx => h x (List.mem_of_mem_take hx)
theorem in_drop {l : List Int} (h : InL l) (n : Nat) : InL (l.drop n) := fun x hx => h x (List.mem_of_mem_drop hx)

/-- A deed as it was handed in. -/
structure DD where
  (kind a b d : Int)
  bf : Bool
  AL : Option Addr
  (nL cL : Nat)
  L : List Int
def DD.cells (x : DD) : List Value := [.int .i64 x.kind, .slice x.AL x.nL x.cL, .int .i64 x.a, .int .i64 x.b, .int .i64 x.d, .bool x.bf]
structure RdD (W : World) (AD : Option Addr) (nD cD : Nat) (ds : List DD) : Prop where
  len : ds.length = nD
  cap : nD ≤ cD
  big : cD ≤ maxLen
  get : ∀ i x, ds[i]? = some x → ∃ p, AD = some p ∧ ∀ j u, x.cells[j]? = some u → W.cell? ((p.add (i * 6)).add j) = some u
  ok : ∀ x, x ∈ ds → (DqA.RdI W x.AL x.nL x.cL x.L ∧ InL x.L) ∧ inR x.a ∧ inR x.b
def wt (ds : List DD) : Nat := (ds.map (fun x => x.nL + 1)).sum
theorem wt_drop (ds : List DD) (k : Nat) (x : DD) (h : ds[k]? = some x) : wt (ds.drop k) = (x.nL + 1) + wt (ds.drop (k + 1)) := by
  obtain ⟨hk, e⟩ := List.getElem?_eq_some_iff.1 h
  rw [List.drop_eq_getElem_cons hk, e]
  simp [wt]
theorem wt_len : ∀ ds : List DD, ds.length ≤ wt ds
  | [] => by simp [wt]
  | x :: r => by have := wt_len r; simp [wt] at this ⊢; omega

/-- What a round carries: the deque at g holds D; the numbers' list l is read at A; the deed lies in its box x. -/
structure Sx (W w : World) (g : Nat) (v : Value) (D : List ByteArray) (N : Nat) (A : Option Addr) (c : Nat) (l : List Int) (x : Nat) (d : DD) : Prop where
  sd : DtR.Sd W w g v D N
  rd : DqA.RdI w A l.length c l
  ap : l ≠ [] → ∀ ad, A = some ad → ad.block ≠ g ∧ v.ownBlock ≠ some ad.block
  bx : w.heap[x]? = some (.cells #[.int .i64 d.kind, .slice d.AL d.nL d.cL, .int .i64 d.a, .int .i64 d.b, .int .i64 d.d, .bool d.bf] 30 (0, 0))
  xg : x ≠ g ∧ v.ownBlock ≠ some x
section
variable {W w w' : World} {g : Nat} {v v' : Value} {D D' : List ByteArray} {N N' : Nat} {A A' : Option Addr} {c c' : Nat} {l l' : List Int} {x : Nat} {d : DD}
theorem rd_lt {n : Nat} {w : World} (h : DqA.RdI w A n c l) (hl : l ≠ []) : ∃ ad, A = some ad ∧ ad.block < w.heap.size :=
  h.lt (fun e => hl (by have := congrArg List.length e; rw [DqA.ints_len] at this; exact List.eq_nil_of_length_eq_zero this))
theorem Sx.below (h : Sx W w g v D N A c l x d) (hb : Below w.heap.size w w') : Sx W w' g v D N A c l x d :=
  ⟨h.sd.below hb, h.rd.below hb, h.ap, (hb.block _ (Array.getElem?_eq_some_iff.1 h.bx).1).trans h.bx, h.xg⟩
theorem Sx.drawn (h : Sx W w g v D N A c l x d) (n : Nat) : Sx W (w.drewN n) g v D N A c l x d := ⟨h.sd.drawn n, h.rd.drawn n, h.ap, h.bx, h.xg⟩
theorem Sx.move (h : Sx W w g v D N A c l x d) (hd : DtO.Dqn w' W.heap.size g v' D' N') (ho : Only (fun k => k = g ∨ v.ownBlock = some k) w w')
    (hv : ∀ k, v'.ownBlock = some k → v.ownBlock = some k ∨ w.heap.size ≤ k) : Sx W w' g v' D' N' A c l x d := by
  refine ⟨⟨hd, ho.after h.sd.bel (Nat.le_refl _) (fun b e => ?_)⟩, ?_, ?_, ho.heap h.bx ?_, h.xg.1, fun e => ?_⟩
  · rcases e with rfl | e
    · exact h.sd.dq.ge
    · exact (h.sd.dq.olt b e).1
  · by_cases hl : l = []
    · subst hl
      exact ⟨h.rd.len, h.rd.cap, h.rd.big, fun j y hy => by simp [DqA.ints] at hy⟩
    · exact h.rd.only ho (fun ad e hS => by
        rcases hS with hS | hS
        · exact (h.ap hl ad e).1 hS
        · exact (h.ap hl ad e).2 hS)
  · intro hl ad e
    refine ⟨(h.ap hl ad e).1, fun e2 => ?_⟩
    rcases hv _ e2 with h3 | h3
    · exact (h.ap hl ad e).2 h3
    · obtain ⟨ad', e', hlt⟩ := rd_lt h.rd hl
      rw [e] at e'; injection e' with e'; subst e'
      omega
  · rintro (e | e)
    · exact h.xg.1 e
    · exact h.xg.2 e
  · rcases hv _ e with h3 | h3
    · exact h.xg.2 h3
    · have := (Array.getElem?_eq_some_iff.1 h.bx).1; omega
theorem Sx.turns (h : Sx W w g v D N A c l x d) (ht : DtO.Turns W.heap.size g v D' N' w w') : ∃ v', Sx W w' g v' D' N' A c l x d := by
  obtain ⟨v', hd, ho, hv⟩ := ht
  refine ⟨v', h.move hd ho (fun k hk => ?_)⟩
  rcases hv with hv | ⟨k', e, hge⟩
  · exact .inl (hv ▸ hk)
  · rw [e] at hk; injection hk with hk; subst hk; exact .inr hge
theorem Sx.fresh (h : Sx W w g v D N A c l x d) (hf : DtF.Fresh w' W.heap.size g v' D') (ho : Only (fun k => k = g) w w') (hv : ∀ k, v'.ownBlock = some k → w.heap.size ≤ k) : Sx W w' g v' D' D'.length A c l x d :=
  h.move ⟨D', 0, ⟨hf.1, hf.2.1, hf.2.2.1, Nat.zero_le _, hf.2.2.2⟩, rfl, Nat.le_refl _⟩ (ho.mono (fun k e => .inl e)) (fun k hk => .inr (hv k hk))
/-- Another list of numbers, made since. -/
theorem Sx.want (h : Sx W w g v D N A c l x d) (hb : Below w.heap.size w w') (ho : DqA.OwnI w' w.heap.size (.slice A' l'.length c') l') : Sx W w' g v D N A' c' l' x d := by
  have h' := h.below hb
  refine ⟨h'.sd, Rd.of_own ho, fun hl ad e => ?_, h'.bx, h'.xg⟩
  have hg := h.sd.dq.lt
  have hB := (ho.lt ad.block (by subst e; rfl)).1
  exact ⟨by omega, fun e2 => by have := (h.sd.dq.olt _ e2).2; omega⟩
theorem Sx.cells (h : Sx W w g v D N A c l x d) : w.cell? ⟨x, 0, none⟩ = some (.int .i64 d.kind) ∧ w.cell? ⟨x, 1, none⟩ = some (.slice d.AL d.nL d.cL) ∧ w.cell? ⟨x, 2, none⟩ = some (.int .i64 d.a) ∧
    w.cell? ⟨x, 3, none⟩ = some (.int .i64 d.b) ∧ w.cell? ⟨x, 4, none⟩ = some (.int .i64 d.d) ∧ w.cell? ⟨x, 5, none⟩ = some (.bool d.bf) := by
  have hb := h.bx
  refine ⟨?_, ?_, ?_, ?_, ?_, ?_⟩ <;> simp [World.cell?, hb]
end
end Go.Proofs.Ytadjgbhbeamdbaa.DtU
