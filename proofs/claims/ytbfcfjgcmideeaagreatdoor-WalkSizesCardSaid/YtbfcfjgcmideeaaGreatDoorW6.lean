/- A walk through a tree: its steps, and the paths that are shut; what a walk's own cells are held to be; no walk of the program. -/
/- The statement 'for s := range seq' of the walk: its body goes on always, in cells of its own, while the iterator may write others; any program. -/
/- walk.Walk's own cells: the steps so far, the shut paths so far; what puts one behind; any program. -/
import Derived.Test.YtbfcfjgcmideeaaGreatDoorPerms
import Derived.Test.YtbfcfjgcmideeaaGreatDoorP1
import Derived.Test.YtbfcfjgcmideeaaGreatDoorB1
import Derived.RangeFuncNested
import Derived.RangeFuncBound
import Derived.RangeFuncLeaves
import Derived.Test.YtbfcfjgcmideeaaGreatDoorM2
namespace Go.Proofs.YtbfcfjgcmideeaaGreatDoor
open Go.RowKit
structure TStep where
  path : ByteArray
  node : Int
  depth : Int
  after : Bool
def TStep.cells (s : TStep) : Array Value := #[.string s.path, .int .i64 s.node, .int .i64 s.depth, .bool s.after]
def TStep.val (s : TStep) : Value := .agg s.cells
def joinB (p n : ByteArray) : ByteArray := ⟨(joinS p.data.toList n.data.toList).toArray⟩
theorem joinB_of {r p n : ByteArray} (h : r.data.toList = joinS p.data.toList n.data.toList) : r = joinB p n := by
  unfold joinB
  rw [← h]
def kidsOf (u g deepest : Int) (x : TNode) (d : Int) : List TEnt := if d < deepest then (if mayB x u g 5 = true then x.list else []) else []
def shutOf (u g deepest : Int) (x : TNode) (p : ByteArray) (d : Int) : List ByteArray := if d < deepest then (if mayB x u g 5 = true then [] else [p]) else []
/-- The steps from a node on, and the paths that are shut. -/
def walkP (t : TTree) (u g deepest : Int) : Nat → Int → ByteArray → Int → List TStep × List ByteArray
  | 0, _, _, _ => ([], [])
  | f + 1, n, p, d =>
    if (t.at n).kind = 2 then
      (⟨p, n, d, false⟩ :: ((kidsOf u g deepest (t.at n) d).flatMap fun e => (walkP t u g deepest f e.node (joinB p e.name) (d + 1)).1) ++ [⟨p, n, d, true⟩],
       shutOf u g deepest (t.at n) p d ++ (kidsOf u g deepest (t.at n) d).flatMap fun e => (walkP t u g deepest f e.node (joinB p e.name) (d + 1)).2)
    else ([⟨p, n, d, false⟩], [])
/-- So much fuel, and so long a path, is enough from a node on. -/
def Fuel (t : TTree) : Nat → Int → Nat → Prop
  | 0, _, _ => False
  | f + 1, n, k => 0 ≤ n ∧ n < t.nodes.length ∧ k ≤ 1000000 ∧ ((t.at n).kind = 2 → ∀ e ∈ (t.at n).list, e.name.size ≤ 1000000 ∧ Fuel t f e.node (k + 1 + e.name.size))
theorem Fuel.mono {t : TTree} : ∀ {f : Nat} {n : Int} {k k' : Nat}, Fuel t f n k → k' ≤ k → Fuel t f n k'
  | 0, _, _, _, h, _ => h.elim
  | f + 1, _, _, _, ⟨h1, h2, h3, h4⟩, hk => ⟨h1, h2, Nat.le_trans hk h3, fun hd e he => ⟨(h4 hd e he).1, Fuel.mono (h4 hd e he).2 (by omega)⟩⟩
theorem joinB_size (p n : ByteArray) : (joinB p n).size ≤ p.size + 1 + n.size := by
  have h1 : p.data.toList.length = p.size := Array.length_toList
  have h2 : n.data.toList.length = n.size := Array.length_toList
  show (joinS p.data.toList n.data.toList).toArray.size ≤ _
  rw [List.size_toArray]
  unfold joinS
  split <;> simp <;> omega
theorem take_flat {α β : Type} {l : List α} {i : Nat} {e : α} (F : α → List β) (he : l[i]? = some e) : (l.take (i + 1)).flatMap F = (l.take i).flatMap F ++ F e := by
  rw [List.take_add_one, he]
  simp
theorem take_flat_le {α β : Type} (l : List α) (i : Nat) (F : α → List β) : ((l.take i).flatMap F).length ≤ (l.flatMap F).length := by
  conv => rhs; rw [← List.take_append_drop i l, List.flatMap_append, List.length_append]
  omega
theorem join_same (P : Program) (f : FuncId) (p n : ByteArray) (w : World) (h : Calls P f #[.string p, .string n] w fun e w' => ∃ r : ByteArray, (e = .returned (.string r) ∧ r.data.toList = joinS p.data.toList n.data.toList) ∧ w' = w) : Calls P f #[.string p, .string n] w fun e w' => e = .returned (.string (joinB p n)) ∧ w' = w :=
  h.mono fun e w' ⟨r, ⟨h1, h2⟩, h3⟩ => ⟨by rw [h1, joinB_of h2], h3⟩
/-- A round, or a shut path, of a walk: what it leaves. -/
def Went (J : (Nat → Prop) → List TStep → List ByteArray → World → Prop) (O : Nat → Prop) (o : List TStep) (s : List ByteArray) (W W' : World) : Prop :=
  ∃ O', J O' o s W' ∧ Turned O W W' ∧ ∀ k, O' k → O k ∨ W.heap.size ≤ k
/-- The walk's own cells, in blocks O: they lie where nobody else writes; each round puts a step behind, each shut path a path. -/
structure JOK (P : Program) (f l sb M : Nat) (J : (Nat → Prop) → List TStep → List ByteArray → World → Prop) : Prop where
  lt : ∀ O o s W, J O o s W → ∀ k, O k → k < W.heap.size
  turned : ∀ O o s W W', J O o s W → Turned (fun k => ¬ O k) W W' → J O o s W'
  yield : ∀ m O o s x W, J O o s W → o.length < M → YieldAt Fence.wide m P l #[TStep.val x] W fun e W' => e = .returned (.bool true) ∧ Went J O (o ++ [x]) s W W'
  shut : ∀ O o s p W, J O o s W → s.length < M → Calls P f #[.string p, .pointer (some ⟨sb, 0, none⟩)] W fun e W' => e = .returned (.tuple #[]) ∧ Went J O o (s ++ [p]) W W'
/-- What the walk's closures have captured. -/
structure Cap (f f2 : Nat) (W : World) (O : Nat → Prop) (b1 b2 b3 b4 b5 b6 : Nat) (A : Option Addr) (N c : Nat) (deepest u g m d : Int) (l sb : Nat) : Prop where
  off : ¬ O b1 ∧ ¬ O b2 ∧ ¬ O b3 ∧ ¬ O b4 ∧ ¬ O b5 ∧ ¬ O b6
  t0 : W.cell? ⟨b1, 0, none⟩ = some (.slice A N c)
  y : W.cell? ⟨b2, 0, none⟩ = some (.func (.yield l) #[] #[])
  dp : W.cell? ⟨b3, 0, none⟩ = some (.int .i64 deepest)
  e0 : W.cell? ⟨b4, 0, none⟩ = some (.int .i64 u)
  e1 : W.cell? ⟨b4, 1, none⟩ = some (.int .i64 g)
  e2 : W.cell? ⟨b4, 2, none⟩ = some (.int .i64 m)
  e3 : W.cell? ⟨b4, 3, none⟩ = some (.int .i64 d)
  sh : W.cell? ⟨b5, 0, none⟩ = some (.func (.func f2) #[] #[.pointer (some ⟨sb, 0, none⟩)])
  cm : W.cell? ⟨b6, 0, none⟩ = some (.func (.func f) #[] #[.pointer (some ⟨b1, 0, none⟩), .pointer (some ⟨b2, 0, none⟩), .pointer (some ⟨b3, 0, none⟩), .pointer (some ⟨b4, 0, none⟩), .pointer (some ⟨b5, 0, none⟩), .pointer (some ⟨b6, 0, none⟩)])
theorem turned_cell {S : Nat → Prop} {W W' : World} (h : Turned S W W') {b o : Nat} {v : Value} (hn : ¬ S b) (hc : W.cell? ⟨b, o, none⟩ = some v) : W'.cell? ⟨b, o, none⟩ = some v :=
  (World.cell?_of_block (h.block b (World.block_lt_of_cell? W _ hc) hn)).trans hc
theorem off_went {O O' : Nat → Prop} {W : World} (h : ∀ k, O' k → O k ∨ W.heap.size ≤ k) {b : Nat} (hn : ¬ O b) (hb : b < W.heap.size) : ¬ O' b := fun hk => by
  rcases h b hk with h1 | h1
  · exact hn h1
  · omega
theorem Cap.went {f f2 : Nat} {W W' : World} {O O' S : Nat → Prop} {b1 b2 b3 b4 b5 b6 : Nat} {A : Option Addr} {N c : Nat} {deepest u g m d : Int} {l sb : Nat} (h : Cap f f2 W O b1 b2 b3 b4 b5 b6 A N c deepest u g m d l sb) (ht : Turned S W W') (hS : ∀ k, k = b1 ∨ k = b2 ∨ k = b3 ∨ k = b4 ∨ k = b5 ∨ k = b6 → ¬ S k) (hO : ∀ k, O' k → O k ∨ W.heap.size ≤ k) : Cap f f2 W' O' b1 b2 b3 b4 b5 b6 A N c deepest u g m d l sb := by
  obtain ⟨o1, o2, o3, o4, o5, o6⟩ := h.off
  have lt := fun {b o : Nat} {v : Value} (hc : W.cell? ⟨b, o, none⟩ = some v) => World.block_lt_of_cell? W _ hc
  exact ⟨⟨off_went hO o1 (lt h.t0), off_went hO o2 (lt h.y), off_went hO o3 (lt h.dp), off_went hO o4 (lt h.e0), off_went hO o5 (lt h.sh), off_went hO o6 (lt h.cm)⟩,
    turned_cell ht (hS _ (by simp)) h.t0, turned_cell ht (hS _ (by simp)) h.y, turned_cell ht (hS _ (by simp)) h.dp, turned_cell ht (hS _ (by simp)) h.e0, turned_cell ht (hS _ (by simp)) h.e1, turned_cell ht (hS _ (by simp)) h.e2, turned_cell ht (hS _ (by simp)) h.e3, turned_cell ht (hS _ (by simp)) h.sh, turned_cell ht (hS _ (by simp)) h.cm⟩
theorem Cap.own {f f2 : Nat} {W W' : World} {O O' : Nat → Prop} {b1 b2 b3 b4 b5 b6 : Nat} {A : Option Addr} {N c : Nat} {deepest u g m d : Int} {l sb : Nat} (h : Cap f f2 W O b1 b2 b3 b4 b5 b6 A N c deepest u g m d l sb) (ht : Turned O W W') (hO : ∀ k, O' k → O k ∨ W.heap.size ≤ k) : Cap f f2 W' O' b1 b2 b3 b4 b5 b6 A N c deepest u g m d l sb := by
  obtain ⟨o1, o2, o3, o4, o5, o6⟩ := h.off
  exact h.went ht (by rintro k (rfl | rfl | rfl | rfl | rfl | rfl) <;> assumption) hO
theorem Cap.keep {f f2 : Nat} {W W' : World} {O : Nat → Prop} {b1 b2 b3 b4 b5 b6 : Nat} {A : Option Addr} {N c : Nat} {deepest u g m d : Int} {l sb : Nat} (h : Cap f f2 W O b1 b2 b3 b4 b5 b6 A N c deepest u g m d l sb) (hb : Below W.heap.size W W') : Cap f f2 W' O b1 b2 b3 b4 b5 b6 A N c deepest u g m d l sb :=
  h.went (turned_below (S := fun _ => False) hb) (fun _ _ h => h) fun _ h => .inl h
theorem Went.from {J : (Nat → Prop) → List TStep → List ByteArray → World → Prop} {O : Nat → Prop} {o : List TStep} {s : List ByteArray} {W W1 W' : World} (h : Went J O o s W1 W') (hb : Below W.heap.size W W1) : Went J O o s W W' := by
  obtain ⟨O', h1, h2, h3⟩ := h
  exact ⟨O', h1, (turned_below (S := O) hb).trans h2 fun _ _ h => h, fun k hk => (h3 k hk).imp id fun h => Nat.le_trans hb.size h⟩
theorem Went.trans {J : (Nat → Prop) → List TStep → List ByteArray → World → Prop} {O O1 : Nat → Prop} {o : List TStep} {s : List ByteArray} {W W1 W' : World} (hT : Turned O W W1) (hO : ∀ k, O1 k → O k ∨ W.heap.size ≤ k) (h : Went J O1 o s W1 W') : Went J O o s W W' := by
  obtain ⟨O', h1, h2, h3⟩ := h
  refine ⟨O', h1, hT.trans h2 fun k hk hs => (hO k hs).elim id fun h => absurd h (by omega), fun k hk => ?_⟩
  rcases h3 k hk with h | h
  · exact hO k h
  · exact .inr (Nat.le_trans hT.size h)
theorem JOK.keep {P : Program} {f l sb M : Nat} {J : (Nat → Prop) → List TStep → List ByteArray → World → Prop} (h : JOK P f l sb M J) {O : Nat → Prop} {o : List TStep} {s : List ByteArray} {W W' : World} (hj : J O o s W) (hb : Below W.heap.size W W') : J O o s W' := h.turned O o s W W' hj (turned_below hb)
/-- Where the inner function stands, at a world: the walk's own cells, its own two boxes, what it has captured. -/
structure Here (P : Program) (f f2 : Nat) (J : (Nat → Prop) → List TStep → List ByteArray → World → Prop) (W : World) (O : Nat → Prop) (hs hn : Nat) (sv nv : Array Value) (Ts Tn : TypeId) (b1 b2 b3 b4 b5 b6 : Nat) (A : Option Addr) (N c : Nat) (deepest u g m d : Int) (l sb : Nat) (o : List TStep) (s : List ByteArray) (wr : World) (O' : Nat → Prop) : Prop where
  j : J O' o s wr
  turned : Turned O W wr
  grow : ∀ k, O' k → O k ∨ W.heap.size ≤ k
  rs : wr.heap[hs]? = some (.cells sv Ts (0, 0))
  rn : wr.heap[hn]? = some (.cells nv Tn (0, 0))
  cap : Cap f f2 wr O' b1 b2 b3 b4 b5 b6 A N c deepest u g m d l sb
  os : ¬ O' hs
  on : ¬ O' hn
section
variable {P : Program} {f f2 : Nat} {J : (Nat → Prop) → List TStep → List ByteArray → World → Prop} {W : World} {O O' : Nat → Prop} {hs hn : Nat} {sv nv : Array Value} {Ts Tn : TypeId} {b1 b2 b3 b4 b5 b6 : Nat} {A : Option Addr} {N c : Nat} {deepest u g m d : Int} {l sb M : Nat} {o : List TStep} {s : List ByteArray} {wr wr' : World}
theorem Here.keep (hJ : JOK P f2 l sb M J) (h : Here P f f2 J W O hs hn sv nv Ts Tn b1 b2 b3 b4 b5 b6 A N c deepest u g m d l sb o s wr O') (hb : Below wr.heap.size wr wr') : Here P f f2 J W O hs hn sv nv Ts Tn b1 b2 b3 b4 b5 b6 A N c deepest u g m d l sb o s wr' O' :=
  ⟨hJ.keep h.j hb, h.turned.trans (turned_below (S := O) hb) fun _ _ h => h, h.grow, (hb.block _ (Array.getElem?_eq_some_iff.1 h.rs).1).trans h.rs, (hb.block _ (Array.getElem?_eq_some_iff.1 h.rn).1).trans h.rn, h.cap.keep hb, h.os, h.on⟩
theorem Here.step {o2 : List TStep} {s2 : List ByteArray} (h : Here P f f2 J W O hs hn sv nv Ts Tn b1 b2 b3 b4 b5 b6 A N c deepest u g m d l sb o s wr O') (hw : Went J O' o2 s2 wr wr') : ∃ O2, Here P f f2 J W O hs hn sv nv Ts Tn b1 b2 b3 b4 b5 b6 A N c deepest u g m d l sb o2 s2 wr' O2 := by
  obtain ⟨O2, h1, h2, h3⟩ := hw
  have ls := (Array.getElem?_eq_some_iff.1 h.rs).1
  have ln := (Array.getElem?_eq_some_iff.1 h.rn).1
  refine ⟨O2, h1, h.turned.trans h2 fun k hk hs => (h.grow k hs).elim id fun h => absurd h (by omega), fun k hk => ?_, (h2.block _ ls h.os).trans h.rs, (h2.block _ ln h.on).trans h.rn, h.cap.own h2 h3, off_went h3 h.os ls, off_went h3 h.on ln⟩
  rcases h3 k hk with h4 | h4
  · exact h.grow k h4
  · exact .inr (Nat.le_trans h.turned.size h4)
theorem Here.went (h : Here P f f2 J W O hs hn sv nv Ts Tn b1 b2 b3 b4 b5 b6 A N c deepest u g m d l sb o s wr O') : Went J O o s W wr := ⟨O', h.j, h.turned, h.grow⟩
theorem Here.low {W0 : World} (h : Here P f f2 J W O hs hn sv nv Ts Tn b1 b2 b3 b4 b5 b6 A N c deepest u g m d l sb o s wr O') (hO : ∀ k, O k → W0.heap.size ≤ k) (hB : Below W0.heap.size W0 W) : (∀ k, O' k → W0.heap.size ≤ k) ∧ Below W0.heap.size W0 wr :=
  ⟨fun k hk => (h.grow k hk).elim (hO k) fun h => Nat.le_trans hB.size h, ⟨h.turned.os.trans hB.os, h.turned.tape.trans hB.tape, h.turned.output.trans hB.output, Nat.le_trans hB.size h.turned.size, fun k hk => (h.turned.block k (Nat.lt_of_lt_of_le hk hB.size) fun a => absurd (hO k a) (by omega)).trans (hB.block k hk)⟩⟩
/-- The step's box is behind what is in it. -/
theorem Here.after (hJ : JOK P f2 l sb M J) (h : Here P f f2 J W O hs hn sv nv Ts Tn b1 b2 b3 b4 b5 b6 A N c deepest u g m d l sb o s wr O') (hsW : W.heap.size ≤ hs) (hb : b1 < hs ∧ b2 < hs ∧ b3 < hs ∧ b4 < hs ∧ b5 < hs ∧ b6 < hs) (hne : hn ≠ hs) (j : Nat) (v : Value) :
    Here P f f2 J W O hs hn (sv.setIfInBounds j v) nv Ts Tn b1 b2 b3 b4 b5 b6 A N c deepest u g m d l sb o s (wr.setCell ⟨hs, j, none⟩ v) O' := by
  have hT : Turned (fun k => k = hs) wr (wr.setCell ⟨hs, j, none⟩ v) := turned_set wr hs j v rfl
  refine ⟨hJ.turned _ _ _ _ _ h.j (hT.mono fun k hk => by rw [hk]; exact h.os), h.turned.trans hT fun k hk e => absurd e (by omega), h.grow, heap_setCell_same wr hs j _ _ _ h.rs, (hT.block hn (Array.getElem?_eq_some_iff.1 h.rn).1 hne).trans h.rn, h.cap.went hT ?_ fun _ h => .inl h, h.os, h.on⟩
  obtain ⟨h1, h2, h3, h4, h5, h6⟩ := hb
  rintro k (rfl | rfl | rfl | rfl | rfl | rfl) <;> omega
theorem Cap.blocks (h : Cap f f2 W O b1 b2 b3 b4 b5 b6 A N c deepest u g m d l sb) : b1 < W.heap.size ∧ b2 < W.heap.size ∧ b3 < W.heap.size ∧ b4 < W.heap.size ∧ b5 < W.heap.size ∧ b6 < W.heap.size :=
  ⟨World.block_lt_of_cell? W _ h.t0, World.block_lt_of_cell? W _ h.y, World.block_lt_of_cell? W _ h.dp, World.block_lt_of_cell? W _ h.e0, World.block_lt_of_cell? W _ h.sh, World.block_lt_of_cell? W _ h.cm⟩
end
end Go.Proofs.YtbfcfjgcmideeaaGreatDoor
namespace Go.Proofs.YtbfcfjgcmideeaaGreatDoor
open Go.RowKit
theorem turned_putObj {S : Nat → Prop} (w : World) (r : Nat) (o : Obj) (hs : S r) : Turned S w (w.putObj r o) :=
  ⟨rfl, rfl, rfl, Nat.le_of_eq (by simp [World.putObj]), fun k _ hn => World.putObj_heap_other (fun e => hn (by rw [e]; exact hs))⟩
/-- The body's own cells: in blocks O; stable where others write; a shut path is put behind. -/
structure IOK (P : Program) (f sb M : Nat) (I : (Nat → Prop) → List TStep → List ByteArray → World → Prop) : Prop where
  lt : ∀ O o s W, I O o s W → ∀ k, O k → k < W.heap.size
  turned : ∀ O o s W W', I O o s W → Turned (fun k => ¬ O k) W W' → I O o s W'
  shut : ∀ O o s p W, I O o s W → s.length < M → Calls P f #[.string p, .pointer (some ⟨sb, 0, none⟩)] W fun e W' => e = .returned (.tuple #[]) ∧ Went I O o (s ++ [p]) W W'
/-- The body's own cells, with the loop's record and the block for deferred calls. -/
def Rec (I : (Nat → Prop) → List TStep → List ByteArray → World → Prop) (l D : Nat) (rec : Loop) (O : Nat → Prop) (o : List TStep) (s : List ByteArray) (W : World) : Prop :=
  ∃ O1, (∀ k, O k ↔ O1 k ∨ k = l ∨ k = D) ∧ I O1 o s W ∧ ¬ O1 l ∧ ¬ O1 D ∧ W.heap[l]? = some (.loop rec) ∧ W.heap[D]? = some (.deferred (some []))
theorem rec_went {I : (Nat → Prop) → List TStep → List ByteArray → World → Prop} {l D : Nat} {rec : Loop} {O O1 : Nat → Prop} {o : List TStep} {s : List ByteArray} {W W' : World} (hO : ∀ k, O k ↔ O1 k ∨ k = l ∨ k = D) (hl : ¬ O1 l) (hD : ¬ O1 D) (hr : W.heap[l]? = some (.loop rec)) (hd : W.heap[D]? = some (.deferred (some []))) (h : Went I O1 o s W W') : Went (Rec I l D rec) O o s W W' := by
  obtain ⟨O2, h1, h2, h3⟩ := h
  have ll := (Array.getElem?_eq_some_iff.1 hr).1
  have ld := (Array.getElem?_eq_some_iff.1 hd).1
  refine ⟨fun k => O2 k ∨ k = l ∨ k = D, ⟨O2, fun k => Iff.rfl, h1, off_went h3 hl ll, off_went h3 hD ld, (h2.block l ll hl).trans hr, (h2.block D ld hD).trans hd⟩, h2.mono fun k hk => (hO k).2 (.inl hk), fun k hk => ?_⟩
  rcases hk with hk | hk
  · exact (h3 k hk).imp (fun h => (hO k).2 (.inl h)) id
  · exact .inl ((hO k).2 (.inr hk))
theorem fold_one (pv : Nat) (v : Value) (tm : Array Value) : (#[pv].zip #[v]).foldl (fun tmps (x : Nat × Value) => match x with | (t, a) => tmps.setIfInBounds t a) tm = tm.setIfInBounds pv v := by simp
theorem wp_range_on {P : Program} {g : Operand} {ps : Array Tmp} {assign body : Code} {Q : Exit → Act → World → Prop} {a : Act} {w : World} {gf f sb M : Nat} {lb : Array Value} {T : TypeId}
    (hg : a.eval g = .func (.func gf) #[] lb) (eg : ∀ args w, (callFunc gf args).run P w = .ok (.enter gf args) w) (sl pv : Nat) (hps : ps = #[pv])
    {I : (Nat → Prop) → List TStep → List ByteArray → World → Prop} (hI : IOK P f sb M I) {O0 : Nat → Prop} (h0 : I O0 [] [] w)
    (hassign : ∀ (l m : Nat) (x : TStep) (W : World) (K : Act → World → Prop), K { tmps := (a.tmps.setIfInBounds pv x.val).setIfInBounds sl (.pointer (some ⟨W.heap.size, 0, none⟩)), defers := [] } (W.alloc (.cells x.cells T)) →
      assign.wpIn (Fence.wide.inRound l) m P (Exit.then K (fun _ _ _ => False)) { tmps := a.tmps.setIfInBounds pv x.val, defers := [] } W)
    (hbody : ∀ (l m : Nat) (O : Nat → Prop) (o : List TStep) (s : List ByteArray) (x : TStep) (hx : Nat) (W : World), I O o s W → o.length < M → W.heap[hx]? = some (.cells x.cells T (0, 0)) → ¬ O hx →
      body.wpIn (Fence.wide.inRound l) m P (fun e _ W' => e = .normal ∧ Went I O (o ++ [x]) s W W') { tmps := (a.tmps.setIfInBounds pv x.val).setIfInBounds sl (.pointer (some ⟨hx, 0, none⟩)), defers := [] } W)
    {outs : List TStep} {shuts : List ByteArray}
    (hiter : ∀ (l : Nat) (J : (Nat → Prop) → List TStep → List ByteArray → World → Prop) (O : Nat → Prop) (W : World), JOK P f l sb M J → J O [] [] W → Below w.heap.size w W → (∀ k, O k → O0 k ∨ w.heap.size ≤ k) →
      Calls P gf (#[.func (.yield l) #[] #[]] ++ lb) W fun e W' => (∃ v, e = .returned v) ∧ Went J O outs shuts W W')
    (hdone : ∀ (D : Nat) (O : Nat → Prop) (W : World), I O outs shuts W → Turned O0 w W → w.heap.size ≤ D → W.heap[D]? = some (.deferred (some [])) → (∀ k, O k → O0 k ∨ w.heap.size ≤ k) → ¬ O D → Q .normal { a with defers := { target := .collected D, args := #[] } :: a.defers } W) :
    (Code.rangeFunc g ps assign body).wp P Q a w := by
  refine (wpIn_wide (n := 1000)).1 (wpIn_rangeFunc ?_)
  intro fn hfn
  subst hps
  obtain ⟨rec, hrec⟩ : ∃ rec : LoopState → Option Code → Loop, rec = fun st pe => { state := st, pending := pe, fn, tmps := a.tmps, params := #[pv], assign, body, defers := w.heap.size } := ⟨_, rfl⟩
  obtain ⟨W1, hW1⟩ : ∃ W1, (w.alloc (.deferred (some []))).alloc (.loop (rec .ready none)) = W1 := ⟨_, rfl⟩
  have hL1 : W1.heap[w.heap.size + 1]? = some (.loop (rec .ready none)) := by
    rw [← hW1]; have := World.alloc_heap_new (w.alloc (.deferred (some []))) (.loop (rec .ready none)); rwa [World.size_alloc] at this
  have hK1 : W1.heap[w.heap.size]? = some (.deferred (some [])) := by
    rw [← hW1]; exact (Below.heap_alloc _ _ _ (by simp)).trans (World.alloc_heap_new w _)
  have hb1 : Below w.heap.size w W1 := by
    rw [← hW1]; exact below_alloc (below_alloc (Below.refl _ _) _) _
  have hI1 : I O0 [] [] W1 := hI.turned _ _ _ _ _ h0 (turned_below hb1)
  have hOlt := hI.lt _ _ _ _ h0
  have hn1 : ¬ O0 (w.heap.size + 1) := fun h => by have := hOlt _ h; omega
  have hn0 : ¬ O0 w.heap.size := fun h => by have := hOlt _ h; omega
  refine ⟨w.heap.size + 1, [{ target := .collected w.heap.size, args := #[] }], W1, { target := .fn (.func gf) lb, args := #[.func (.yield (w.heap.size + 1)) #[] #[]] }, W1, gf,
    #[.func (.yield (w.heap.size + 1)) #[] #[]] ++ lb, W1, ?_, ?_, ?_, ?_, fun _ => by decide, ?_⟩
  · rw [← hW1, hrec]; exact run_enterLoop_outer _ _ _ _ _
  · simp only [resolve, hg]
    simp [go_sem]
  · intro f' hf'; trivial
  · simp [invoke, go_sem, eg]
  · have hJ : JOK P f (w.heap.size + 1) sb M (Rec I (w.heap.size + 1) w.heap.size (rec .ready none)) := by
      refine ⟨?_, ?_, ?_, ?_⟩
      · rintro O o s W ⟨O1, e1, e2, e3, e4, e5, e6⟩ k hk
        rcases (e1 k).1 hk with hk | rfl | rfl
        · exact hI.lt _ _ _ _ e2 k hk
        · exact (Array.getElem?_eq_some_iff.1 e5).1
        · exact (Array.getElem?_eq_some_iff.1 e6).1
      · rintro O o s W W' ⟨O1, e1, e2, e3, e4, e5, e6⟩ hT
        exact ⟨O1, e1, hI.turned _ _ _ _ _ e2 (hT.mono fun k hk h => hk ((e1 k).2 (.inl h))), e3, e4, (hT.block _ (Array.getElem?_eq_some_iff.1 e5).1 (fun h => h ((e1 _).2 (.inr (.inl rfl))))).trans e5, (hT.block _ (Array.getElem?_eq_some_iff.1 e6).1 (fun h => h ((e1 _).2 (.inr (.inr rfl))))).trans e6⟩
      · rintro m O o s x W ⟨O1, e1, e2, e3, e4, e5, e6⟩ hlen
        have hlt : w.heap.size + 1 < W.heap.size := (Array.getElem?_eq_some_iff.1 e5).1
        have hy := run_yield (P := P) (args := #[x.val]) e5 (by rw [hrec]; rfl)
        rw [hrec] at hy
        dsimp only at hy
        rw [fold_one] at hy
        refine ⟨fn, _, assign, body, hy, roundIn_of_wpIn trivial (hassign _ m x W _ ?_)⟩
        have hBa := below_alloc (Below.refl W.heap.size W) (.cells x.cells T)
        have e5a : (W.alloc (.cells x.cells T)).heap[w.heap.size + 1]? = some (.loop (rec .ready none)) := (hBa.block _ hlt).trans e5
        have e6a : (W.alloc (.cells x.cells T)).heap[w.heap.size]? = some (.deferred (some [])) := (hBa.block _ (by omega)).trans e6
        refine ⟨_, run_beginRound e5a (by rw [hrec]), ?_⟩
        obtain ⟨W2, hW2⟩ : ∃ W2, (W.alloc (.cells x.cells T)).putObj (w.heap.size + 1) (.loop { rec .ready none with state := .busy }) = W2 := ⟨_, rfl⟩
        rw [hW2]
        have hT2 : Turned (fun k => k = w.heap.size + 1) (W.alloc (.cells x.cells T)) W2 := by rw [← hW2]; exact turned_putObj _ _ _ rfl
        have hl2 : W2.heap[w.heap.size + 1]? = some (.loop { rec .ready none with state := .busy }) := by rw [← hW2]; exact World.putObj_heap_same (by simp; omega)
        have hk2 : W2.heap[w.heap.size]? = some (.deferred (some [])) := (hT2.block _ (by simp; omega) (by omega)).trans e6a
        have hx2 : W2.heap[W.heap.size]? = some (.cells x.cells T (0, 0)) := (hT2.block _ (by simp) (by omega)).trans (heap_alloc_new W _)
        have hI2 : I O1 o s W2 := hI.turned _ _ _ _ _ (hI.turned _ _ _ _ _ e2 (turned_below hBa)) (hT2.mono fun k hk => by rw [hk]; exact e3)
        have hnx : ¬ O1 W.heap.size := fun h => by have := hI.lt _ _ _ _ e2 _ h; omega
        refine wpIn_mono (hbody _ m O1 o s x W.heap.size W2 hI2 hlen hx2 hnx) ?_
        rintro e a3 W3 ⟨rfl, O3, hI3, hT3, hO3⟩
        have hl3 := (hT3.block _ (Array.getElem?_eq_some_iff.1 hl2).1 e3).trans hl2
        have hk3 := (hT3.block _ (Array.getElem?_eq_some_iff.1 hk2).1 e4).trans hk2
        have hr3 := run_endRound (P := P) none hl3
        obtain ⟨W4, hW4⟩ : ∃ W4, W3.putObj (w.heap.size + 1) (.loop (rec .ready none)) = W4 := ⟨_, rfl⟩
        have hT4 : Turned (fun k => k = w.heap.size + 1) W3 W4 := by rw [← hW4]; exact turned_putObj _ _ _ rfl
        have o3l : ¬ O3 (w.heap.size + 1) := off_went hO3 e3 (Array.getElem?_eq_some_iff.1 hl2).1
        have o3d : ¬ O3 w.heap.size := off_went hO3 e4 (Array.getElem?_eq_some_iff.1 hk2).1
        refine ⟨_, W4, ?_, rfl, fun k => O3 k ∨ k = w.heap.size + 1 ∨ k = w.heap.size, ⟨O3, fun k => Iff.rfl, hI.turned _ _ _ _ _ hI3 (hT4.mono fun k hk => by rw [hk]; exact o3l), o3l, o3d, by rw [← hW4]; exact World.putObj_heap_same (Array.getElem?_eq_some_iff.1 hl3).1, (hT4.block _ (Array.getElem?_eq_some_iff.1 hk3).1 (by omega)).trans hk3⟩, ?_, ?_⟩
        · rw [hrec] at hr3
          rw [← hW4, hrec]
          exact hr3
        · refine Turned.trans (w1 := W2) ?_ ((hT3.mono fun k hk => (e1 k).2 (.inl hk)).trans (hT4.mono fun k hk => (e1 k).2 (.inr (.inl hk))) fun k _ h => h) fun k _ h => h
          exact (turned_below (S := O) hBa).trans (hT2.mono fun k hk => (e1 k).2 (.inr (.inl hk))) fun k _ h => h
        · intro k hk
          rcases hk with hk | hk
          · rcases hO3 k hk with h | h
            · exact .inl ((e1 k).2 (.inl h))
            · exact .inr (Nat.le_trans (Nat.le_trans hBa.size hT2.size) h)
          · exact .inl ((e1 k).2 (.inr hk))
      · rintro O o s p W ⟨O1, e1, e2, e3, e4, e5, e6⟩ hlen
        exact (hI.shut O1 o s p W e2 hlen).mono fun e W' ⟨h1, h2⟩ => ⟨h1, rec_went e1 e3 e4 e5 e6 h2⟩
    refine (callsIn_wide (n := 1000 - 1)).2 ((hiter (w.heap.size + 1) _ (fun k => O0 k ∨ k = w.heap.size + 1 ∨ k = w.heap.size) W1 hJ ⟨O0, fun k => Iff.rfl, hI1, hn1, hn0, hL1, hK1⟩ hb1 ?_).mono ?_)
    · rintro k (hk | rfl | rfl)
      · exact .inl hk
      · exact .inr (by omega)
      · exact .inr (Nat.le_refl _)
    · rintro e W2 ⟨⟨v, rfl⟩, O2, ⟨O3, e1, e2, e3, e4, e5, e6⟩, hT, hO⟩
      have hend := run_endLoop (P := P) e5 (by rw [hrec]; simp)
      rw [hrec] at hend
      refine ⟨none, _, hend, ?_⟩
      obtain ⟨W4, hW4⟩ : ∃ W4, W2.putObj (w.heap.size + 1) (.loop { rec .ready none with state := .exhausted }) = W4 := ⟨_, rfl⟩
      have hT4 : Turned (fun k => k = w.heap.size + 1) W2 W4 := by rw [← hW4]; exact turned_putObj _ _ _ rfl
      rw [hrec] at hW4
      simp only at hW4 ⊢
      rw [hW4]
      refine hdone w.heap.size O3 W4 (hI.turned _ _ _ _ _ e2 (hT4.mono fun k hk => by rw [hk]; exact e3)) ?_ (Nat.le_refl _) ((hT4.block _ (Array.getElem?_eq_some_iff.1 e6).1 (by omega)).trans e6) ?_ e4
      · have h1 : Turned O0 w W1 := turned_below hb1
        refine h1.trans (T := fun k => O0 k ∨ w.heap.size ≤ k) ?_ fun k hk h => h.elim id fun h => absurd h (by omega)
        refine Turned.trans (w1 := W2) (hT.mono fun k hk => ?_) (hT4.mono fun k hk => .inr (by omega)) fun k _ h => h
        rcases hk with hk | rfl | rfl
        · exact .inl hk
        · exact .inr (by omega)
        · exact .inr (Nat.le_refl _)
      · intro k hk
        rcases hO k ((e1 k).2 (.inl hk)) with (h | rfl | rfl) | h
        · exact .inl h
        · exact .inr (by omega)
        · exact .inr (Nat.le_refl _)
        · exact .inr (Nat.le_trans hb1.size h)
end Go.Proofs.YtbfcfjgcmideeaaGreatDoor
namespace Go.Proofs.YtbfcfjgcmideeaaGreatDoor
open Go.RowKit
def stepRows (o : List TStep) : List (List Value) := o.map fun s => s.cells.toList
def pathRows (s : List ByteArray) : List (List Value) := s.map fun p => [.string p]
structure WI' (B bo bs : Nat) (T T' e e' : TypeId) (O : Nat → Prop) (o : List TStep) (s : List ByteArray) (W : World) (vo vs : Value) : Prop where
  ro : W.heap[bo]? = some (.cells #[vo] T (0, 0))
  rs : W.heap[bs]? = some (.cells #[vs] T' (0, 0))
  oo : Own W B e 4 vo (stepRows o)
  os : Own W B e' 1 vs (pathRows s)
  own : ∀ k, O k ↔ k = bo ∨ k = bs ∨ vo.ownBlock = some k ∨ vs.ownBlock = some k
  ne : bo ≠ bs ∧ vo.ownBlock ≠ some bo ∧ vo.ownBlock ≠ some bs ∧ vs.ownBlock ≠ some bo ∧ vs.ownBlock ≠ some bs ∧ ∀ k, vo.ownBlock = some k → vs.ownBlock ≠ some k
def WI (B bo bs : Nat) (T T' e e' : TypeId) (O : Nat → Prop) (o : List TStep) (s : List ByteArray) (W : World) : Prop := ∃ vo vs, WI' B bo bs T T' e e' O o s W vo vs
theorem WI'.lt {B bo bs : Nat} {T T' e e' : TypeId} {O : Nat → Prop} {o : List TStep} {s : List ByteArray} {W : World} {vo vs : Value} (h : WI' B bo bs T T' e e' O o s W vo vs) : ∀ k, O k → k < W.heap.size := by
  intro k hk
  rcases (h.own k).1 hk with rfl | rfl | hk | hk
  · exact (Array.getElem?_eq_some_iff.1 h.ro).1
  · exact (Array.getElem?_eq_some_iff.1 h.rs).1
  · exact (h.oo.lt k hk).2
  · exact (h.os.lt k hk).2
theorem WI.turned {B bo bs : Nat} {T T' e e' : TypeId} {O : Nat → Prop} {o : List TStep} {s : List ByteArray} {W W' : World} (h : WI B bo bs T T' e e' O o s W) (ht : Turned (fun k => ¬ O k) W W') : WI B bo bs T T' e e' O o s W' := by
  obtain ⟨vo, vs, h⟩ := h
  have hn : ∀ k, O k → ¬ ¬ O k := fun k hk h => h hk
  exact ⟨vo, vs, (ht.block _ (Array.getElem?_eq_some_iff.1 h.ro).1 (hn _ ((h.own _).2 (.inl rfl)))).trans h.ro, (ht.block _ (Array.getElem?_eq_some_iff.1 h.rs).1 (hn _ ((h.own _).2 (.inr (.inl rfl))))).trans h.rs, h.oo.turned ht fun k hk => hn k ((h.own k).2 (.inr (.inr (.inl hk)))), h.os.turned ht fun k hk => hn k ((h.own k).2 (.inr (.inr (.inr hk)))), h.own, h.ne⟩
/-- A step is put behind: the slice is grown, and laid into its box. -/
theorem WI'.putStep {B bo bs : Nat} {T T' e e' : TypeId} {O : Nat → Prop} {o : List TStep} {s : List ByteArray} {W W1 : World} {vo vs v' : Value} {x : TStep} (h : WI' B bo bs T T' e e' O o s W vo vs) (hO : Own W1 B e 4 v' (stepRows o ++ [x.cells.toList])) (hg : W.grownBy W1 vo.ownBlock) (hv : v'.ownBlock = vo.ownBlock ∨ ∃ k, v'.ownBlock = some k ∧ W.heap.size ≤ k) :
    Went (WI B bo bs T T' e e') O (o ++ [x]) s W (W1.setCell ⟨bo, 0, none⟩ v') := by
  obtain ⟨n1, n2, n3, n4, n5, n6⟩ := h.ne
  have lo := (Array.getElem?_eq_some_iff.1 h.ro).1
  have ls := (Array.getElem?_eq_some_iff.1 h.rs).1
  have hro := (hg.block bo lo (fun e => n2 e.symm)).trans h.ro
  have hrs := (hg.block bs ls (fun e => n3 e.symm)).trans h.rs
  have hT : Turned (fun k => vo.ownBlock = some k) W W1 := turned_grown hg fun k hk => hk
  have hT1 : Turned (fun k => k = bo) W1 (W1.setCell ⟨bo, 0, none⟩ v') := turned_set W1 bo 0 v' rfl
  have hvo : v'.ownBlock ≠ some bo ∧ v'.ownBlock ≠ some bs ∧ ∀ k, v'.ownBlock = some k → vs.ownBlock ≠ some k := by
    rcases hv with hv | ⟨k, hv, hk⟩
    · rw [hv]; exact ⟨n2, n3, n6⟩
    · refine ⟨fun h => ?_, fun h => ?_, fun k' hk' h' => ?_⟩
      · rw [hv] at h; cases h; omega
      · rw [hv] at h; cases h; omega
      · rw [hv] at hk'; cases hk'
        have := (h.os.lt _ h').2; omega
  have hos := (h.os.turned hT fun k hk hs => n6 k hs hk).turned hT1 fun k hk e => n4 (by rw [hk, e])
  refine ⟨fun k => k = bo ∨ k = bs ∨ v'.ownBlock = some k ∨ vs.ownBlock = some k, ⟨v', vs, ⟨?_, (hT1.block bs (Nat.lt_of_lt_of_le ls hg.size) (fun e => n1 e.symm)).trans hrs, ?_, hos, fun k => Iff.rfl, n1, hvo.1, hvo.2.1, n4, n5, hvo.2.2⟩⟩, ?_, ?_⟩
  · have := heap_setCell_same W1 bo 0 #[vo] _ v' hro
    simpa using this
  · have : stepRows (o ++ [x]) = stepRows o ++ [x.cells.toList] := by simp [stepRows]
    rw [this]
    exact hO.turned hT1 fun k hk e => hvo.1 (by rw [hk, e])
  · exact (hT.mono fun k hk => (h.own k).2 (.inr (.inr (.inl hk)))).trans (hT1.mono fun k hk => (h.own k).2 (.inl hk)) fun k _ h => h
  · intro k hk
    rcases hk with rfl | rfl | hk | hk
    · exact .inl ((h.own _).2 (.inl rfl))
    · exact .inl ((h.own _).2 (.inr (.inl rfl)))
    · rcases hv with hv | ⟨k', hv, hk'⟩
      · exact .inl ((h.own _).2 (.inr (.inr (.inl (hv ▸ hk)))))
      · rw [hv] at hk; cases hk; exact .inr hk'
    · exact .inl ((h.own _).2 (.inr (.inr (.inr hk))))
/-- A shut path is put behind. -/
theorem WI'.putPath {B bo bs : Nat} {T T' e e' : TypeId} {O : Nat → Prop} {o : List TStep} {s : List ByteArray} {W W1 : World} {vo vs v' : Value} {p : ByteArray} (h : WI' B bo bs T T' e e' O o s W vo vs) (hO : Own W1 B e' 1 v' (pathRows s ++ [[.string p]])) (hg : W.grownBy W1 vs.ownBlock) (hv : v'.ownBlock = vs.ownBlock ∨ ∃ k, v'.ownBlock = some k ∧ W.heap.size ≤ k) :
    Went (WI B bo bs T T' e e') O o (s ++ [p]) W (W1.setCell ⟨bs, 0, none⟩ v') := by
  obtain ⟨n1, n2, n3, n4, n5, n6⟩ := h.ne
  have lo := (Array.getElem?_eq_some_iff.1 h.ro).1
  have ls := (Array.getElem?_eq_some_iff.1 h.rs).1
  have hro := (hg.block bo lo (fun e => n4 e.symm)).trans h.ro
  have hrs := (hg.block bs ls (fun e => n5 e.symm)).trans h.rs
  have hT : Turned (fun k => vs.ownBlock = some k) W W1 := turned_grown hg fun k hk => hk
  have hT1 : Turned (fun k => k = bs) W1 (W1.setCell ⟨bs, 0, none⟩ v') := turned_set W1 bs 0 v' rfl
  have hvo : v'.ownBlock ≠ some bo ∧ v'.ownBlock ≠ some bs ∧ ∀ k, vo.ownBlock = some k → v'.ownBlock ≠ some k := by
    rcases hv with hv | ⟨k, hv, hk⟩
    · rw [hv]; exact ⟨n4, n5, n6⟩
    · refine ⟨fun h => ?_, fun h => ?_, fun k' hk' h' => ?_⟩
      · rw [hv] at h; cases h; omega
      · rw [hv] at h; cases h; omega
      · rw [hv] at h'; cases h'
        have := (h.oo.lt _ hk').2; omega
  have hoo := (h.oo.turned hT fun k hk hs => n6 k hk hs).turned hT1 fun k hk e => n3 (by rw [hk, e])
  refine ⟨fun k => k = bo ∨ k = bs ∨ vo.ownBlock = some k ∨ v'.ownBlock = some k, ⟨vo, v', ⟨(hT1.block bo (Nat.lt_of_lt_of_le lo hg.size) n1).trans hro, ?_, hoo, ?_, fun k => Iff.rfl, n1, n2, n3, hvo.1, hvo.2.1, hvo.2.2⟩⟩, ?_, ?_⟩
  · have := heap_setCell_same W1 bs 0 #[vs] _ v' hrs
    simpa using this
  · have : pathRows (s ++ [p]) = pathRows s ++ [[.string p]] := by simp [pathRows]
    rw [this]
    exact hO.turned hT1 fun k hk e => hvo.2.1 (by rw [hk, e])
  · exact (hT.mono fun k hk => (h.own k).2 (.inr (.inr (.inr hk)))).trans (hT1.mono fun k hk => (h.own k).2 (.inr (.inl hk))) fun k _ h => h
  · intro k hk
    rcases hk with rfl | rfl | hk | hk
    · exact .inl ((h.own _).2 (.inl rfl))
    · exact .inl ((h.own _).2 (.inr (.inl rfl)))
    · exact .inl ((h.own _).2 (.inr (.inr (.inl hk))))
    · rcases hv with hv | ⟨k', hv, hk'⟩
      · exact .inl ((h.own _).2 (.inr (.inr (.inr (hv ▸ hk)))))
      · rw [hv] at hk; cases hk; exact .inr hk'
end Go.Proofs.YtbfcfjgcmideeaaGreatDoor
