/- The abstract layer, part 9: operations that ask memory nothing. -/
import Derived.Test.YtahkpjbhjkmedaaK8
namespace Go.Abs
set_option autoImplicit false

/-- A choice between two values. -/
def PV.sel (t : Bool) (p q : PV) : PV := match p, q with
  | .val (.bool a), .val (.bool b) => .val (.bool (bif t then a else b))
  | p, q => bif t then p else q
@[simp] theorem sel_true (p q : PV) : PV.sel true p q = p := by unfold PV.sel; split <;> simp_all
@[simp] theorem sel_false (p q : PV) : PV.sel false p q = q := by unfold PV.sel; split <;> simp_all
@[simp] theorem sel_bool (t a b : Bool) : PV.sel t (.val (.bool a)) (.val (.bool b)) = .val (.bool (bif t then a else b)) := rfl

/-- A comparison with nil: what is known. -/
def aNil : PV → Option Bool
  | .val (.slice none 0 0) | .val (.pointer none) | .val .nilFunc | .val (.map none) | .val .nilIface => some true
  | .slice _ _ (_ :: _) | .msl .. | .ptr .. | .rptr .. | .func .. | .map _ | .iface .. => some false
  | _ => none

def aBin (P : Program) (op : BinOp) (t : TypeId) (x y : PV) : Option PV :=
  match x, y with
  | .agg xs, .agg ys => if P.eqGuardType P.depth t = false then
      match op, aEqIn P Op.maxDepth t (.agg xs) (.agg ys) with
      | .eql, some b => some (.val (.bool b))
      | .neq, some b => some (.val (.bool (!b)))
      | _, _ => none
    else none
  | .val (.bool a), .val (.bool b) => match P.underlying t, op with
      | some .bool, .eql => some (.val (.bool (a == b)))
      | some .bool, .neq => some (.val (.bool (!(a == b))))
      | _, _ => none
  | .val a, .val b => (aBinV op a b).map .val
  | _, _ => none

def aUn (op : UnOp) (x : PV) : Option PV :=
  match op, x with
  | .not, .val (.bool b) => some (.val (.bool (!b)))
  | .neg, .val (.int k n) => some (.val (.int k (k.wrap (-n))))
  | .xor, .val (.int k n) => some (.val (.int k (k.wrap ((BitVec.ofInt k.bits (if k.signed then -1 else k.max)) ^^^ (BitVec.ofInt k.bits n)).toNat)))
  | _, _ => none

def aConvert (P : Program) (src dst : TypeId) (x : PV) : Option PV :=
  match P.underlying src, P.underlying dst, x with
  | some _, some (.int k), .val (.int _ n) => some (.val (.int k (k.wrap n)))
  | some .string, some .string, .val (.string s) => some (.val (.string s))
  | _, _, _ => none

def aFieldAddr (P : Program) (s : TypeId) (x : PV) (f : Nat) : Option PV :=
  match P.underlying s with
  | some (.struct fs) => match fs[f]? with
    | some fd => match szOf P fd.type, x with
      | some (_ + 1), .ptr id vl row off => some (.ptr id vl row (off + fd.offset))
      | some (_ + 1), .rptr c cells => some (.rptr c (cells.drop fd.offset))
      | _, _ => none
    | none => none
  | _ => none

def aField (P : Program) (s : TypeId) (x : PV) (f : Nat) : Option PV :=
  match P.underlying s, x with
  | some (.struct fs), .agg cells => match fs[f]? with
    | some fd => partOf P fd.type cells fd.offset
    | none => none
  | _, _ => none

def aIndexAddr (P : Program) (t : TypeId) (x i : PV) : Option PV :=
  match P.underlying t, i with
  | some (.slice elem), .val (.int _ n) => (szOf P elem).bind fun sz => aindex sz x n
  | some (.array len elem), .val (.int _ n) => match x, szOf P elem with
    | .ptr id vl row off, some sz => if 0 ≤ n ∧ n < len then some (.ptr id vl row (off + n.toNat * sz)) else none
    | .rptr c cells, some sz => if 0 ≤ n ∧ n < len then some (.rptr c (cells.drop (n.toNat * sz))) else none
    | _, _ => none
  | _, _ => none

def aIndex (P : Program) (t : TypeId) (x i : PV) : Option PV :=
  match P.underlying t, x, i with
  | some .string, .val (.string s), .val (.int _ n) => if h : 0 ≤ n ∧ n.toNat < s.size then some (.val (.int .u8 (s[n.toNat]'h.2).toNat)) else none
  | some (.array len elem), .agg cells, .val (.int _ n) => if 0 ≤ n ∧ n < len then (szOf P elem).bind fun sz => partOf P elem cells (n.toNat * sz) else none
  | _, _, _ => none

def cutOk (P : Program) (t : TypeId) (x : PV) : Bool := match P.underlying t, x with
  | some .string, .val (.string _) => true
  | some (.slice e), .val (.slice none 0 0) => (szOf P e).isSome
  | some (.slice e), .slice _ s rows => match szOf P e with
    | some sz => rows.isEmpty || s == sz
    | none => false
  | _, _ => false

def aBound : Option PV → Option (Option Int)
  | none => some none
  | some (.val (.int _ n)) => some (some n)
  | _ => none

def aCutOp (P : Program) (t : TypeId) (x : PV) (lo hi : Option PV) : Option PV :=
  if cutOk P t x = true then (aBound lo).bind fun l => (aBound hi).bind fun h => acut x l h else none

def aBuild (P : Program) (t : TypeId) (parts : List (Nat × PV)) : Option PV :=
  match P.underlying t, zeroOf P t with
  | some (.struct fs), some zs =>
    if zs.all PV.atomic = true ∧ (fs.toList.all fun f => (szOf P f.type).isSome) = true then (go fs zs parts).map .agg else none
  | _, _ => none
where
  go (fs : Array Field) (cells : List PV) : List (Nat × PV) → Option (List PV)
    | [] => some cells
    | (i, p) :: rest => match fs[i]? with
      | some f => match szOf P f.type with
        | some sz => if p.okCells = true ∧ p.cells.length = sz ∧ f.offset + sz ≤ cells.length then go fs (splice cells f.offset p.cells) rest else none
        | none => none
      | none => none

def aExtract (x : PV) (i : Nat) : Option PV := match x with
  | .tuple vs => vs[i]?
  | _ => none

section
variable {P : Program} {G : Gh} {H : AS} {w : World}

theorem aBin_sound {op : BinOp} {t : TypeId} {x y q : PV} {u v : Value} (hx : Rep G x u) (hy : Rep G y v) (xo yo : Operand) (h : aBin P op t x y = some q) (w : World) :
    ∃ r, (do eqGuard op t xo yo u v; binOp op t u v : Sem Value).run P w = .ok r w ∧ Rep G q r := by
  unfold aBin at h
  split at h
  · rename_i xs ys
    split at h
    · rename_i hg
      obtain ⟨us, rfl⟩ : ∃ us, u = .agg us := by cases hx; exact ⟨_, rfl⟩
      obtain ⟨vs, rfl⟩ : ∃ vs, v = .agg vs := by cases hy; exact ⟨_, rfl⟩
      split at h
      · rename_i b hb
        simp at h; subst h
        refine ⟨.bool b, ?_, .val _⟩
        simp [run_eqGuard_agg, hg, binOp, Op.equal, aEqIn_sound _ hx hy hb w]
      · rename_i b hb
        simp at h; subst h
        refine ⟨.bool (!b), ?_, .val _⟩
        simp [run_eqGuard_agg, hg, binOp, Op.equal, aEqIn_sound _ hx hy hb w]
      · cases h
    · cases h
  · rename_i a b
    cases hx; cases hy
    split at h
    · rename_i hu
      simp at h; subst h
      have := aEqCell_sound (w := w) (d := 9999) hu (.val (G := G) (.bool a)) (.val (.bool b)) (b := (a == b)) rfl
      exact ⟨.bool (a == b), by simp only [eqGuard_at_bool, binOp, Op.equal, show Op.maxDepth = 9999 + 1 from rfl, Sem.run_bind, Sem.run_pure, Result.andThen_ok, this], .val _⟩
    · rename_i hu
      simp at h; subst h
      have := aEqCell_sound (w := w) (d := 9999) hu (.val (G := G) (.bool a)) (.val (.bool b)) (b := (a == b)) rfl
      exact ⟨.bool (!(a == b)), by simp only [eqGuard_at_bool, binOp, Op.equal, show Op.maxDepth = 9999 + 1 from rfl, Sem.run_bind, Sem.run_pure, Result.andThen_ok, this], .val _⟩
    · cases h
  · rename_i a b _
    cases hx; cases hy
    simp only [Option.map_eq_some_iff] at h
    obtain ⟨r, hr, rfl⟩ := h
    exact ⟨r, aBinV_sound hr xo yo w, .val _⟩
  · cases h

theorem aUn_sound {op : UnOp} {x q : PV} {u : Value} (hx : Rep G x u) (h : aUn op x = some q) (w : World) : ∃ r, (Op.unary op u).run P w = .ok r w ∧ Rep G q r := by
  unfold aUn at h
  split at h
  · cases hx; simp at h; subst h; exact ⟨_, rfl, .val _⟩
  · rename_i k n; cases hx; simp at h; subst h; exact ⟨.int k (k.wrap (-n)), by simp [Op.unary, Op.intArith], .val _⟩
  · cases hx; simp at h; subst h; exact ⟨_, rfl, .val _⟩
  · cases h

theorem aConvert_sound {src dst : TypeId} {x q : PV} {u : Value} (hx : Rep G x u) (h : aConvert P src dst x = some q) (w : World) : ∃ r, (convert src dst u).run P w = .ok r w ∧ Rep G q r := by
  unfold aConvert at h
  split at h
  · rename_i h1 h2; cases hx; simp at h; subst h
    exact ⟨_, by simp [convert, run_underlying h1, run_underlying h2, Conv.intToInt], .val _⟩
  · rename_i h1 h2; cases hx; simp at h; subst h
    exact ⟨_, by simp [convert, run_underlying h1, run_underlying h2], .val _⟩
  · cases h

theorem rptr_drop {c n : Nat} {cells : List PV} {b o : Nat} (h : Rep G (.rptr c cells) (.pointer (some ⟨b, o, none⟩))) : Rep G (.rptr c (cells.drop n)) (.pointer (some ⟨b, o + n, none⟩)) := by
  cases h with
  | rptr vs h1 h2 h3 =>
    refine .rptr (fun j => vs (n + j)) (fun j p hp => ?_) (fun j p hp => ?_) (fun j p hp => ?_) <;> rw [List.getElem?_drop] at hp
    · have := h1 _ p hp; rwa [← Nat.add_assoc] at this
    · exact h2 _ p hp
    · exact h3 _ p hp

theorem aFieldAddr_sound {s : TypeId} {x q : PV} {f : Nat} {u : Value} (hx : Rep G x u) (h : aFieldAddr P s x f = some q) (w : World) : ∃ r, (Instr.fieldAt s u f).run P w = .ok r w ∧ Rep G q r := by
  unfold aFieldAddr at h
  split at h
  case h_2 => cases h
  rename_i fs hu
  split at h
  case h_2 => cases h
  rename_i fd hf
  split at h
  · rename_i n id vl row off hs
    simp at h; subst h
    cases hx with
    | ptr hv =>
      refine ⟨_, by simp [Instr.fieldAt, run_underlying hu, hf, Instr.sureAddr, fieldPlace, runSize hs, addr_add] <;> rfl, ?_⟩
      rw [Nat.add_assoc]; exact .ptr hv
  · rename_i n c cells hs
    simp at h; subst h
    obtain ⟨b, o, rfl⟩ : ∃ b o, u = .pointer (some ⟨b, o, none⟩) := by cases hx; exact ⟨_, _, rfl⟩
    exact ⟨_, by simp [Instr.fieldAt, run_underlying hu, hf, Instr.sureAddr, fieldPlace, runSize hs, addr_add] <;> rfl, rptr_drop hx⟩
  · cases h

theorem aField_sound {s : TypeId} {x q : PV} {f : Nat} {u : Value} (hx : Rep G x u) (h : aField P s x f = some q) (w : World) : ∃ r, (Instr.field s u f).run P w = .ok r w ∧ Rep G q r := by
  unfold aField at h
  split at h
  case h_2 => cases h
  rename_i fs cells hu
  split at h
  case h_2 => cases h
  rename_i fd hf
  obtain ⟨us, rfl⟩ : ∃ us, u = .agg us := by cases hx; exact ⟨_, rfl⟩
  obtain ⟨r, hr, hrep⟩ := partOf_sound hx h
  exact ⟨r, by simp [Instr.field, run_underlying hu, hf, asAgg, hr], hrep⟩

theorem aindex_sound {sz : Nat} {x q : PV} {n : Int} {u : Value} (hx : Rep G x u) (h : aindex sz x n = some q) : ∃ b o len cap, u = .slice (some ⟨b, o, none⟩) len cap ∧ 0 ≤ n ∧ n < len ∧ Rep G q (.pointer (some ⟨b, o + n.toNat * sz, none⟩)) := by
  unfold aindex at h
  split at h
  · rename_i c s rows
    split at h
    · rename_i hc
      obtain ⟨rfl, h0⟩ := hc
      simp only [Option.map_eq_some_iff] at h
      obtain ⟨r, hr, rfl⟩ := h
      have hlt : n.toNat < rows.length := (List.getElem?_eq_some_iff.1 hr).1
      cases hx with
      | slice vs g0 g1 g2 g3 g4 =>
        refine ⟨_, _, _, _, rfl, h0, by omega, .rptr (fun j => vs n.toNat j) (fun j p hp => ?_) (fun j p hp => ?_) (fun j p hp => ?_)⟩
        · exact g2 _ r j p hr hp
        · exact g3 _ r j p hr hp
        · exact g4 _ r j p hr hp
      | nilSlice => simp at hr
      | emptySlice => simp at hr
    · cases h
  · rename_i id len s
    split at h
    · rename_i hc
      obtain ⟨rfl, h0, hlt⟩ := hc
      simp at h; subst h
      cases hx with
      | msl hv =>
        refine ⟨_, _, _, _, rfl, h0, by omega, ?_⟩
        have := Rep.ptr (row := n.toNat) (off := 0) hv
        simpa using this
    · cases h
  · cases h

theorem aIndexAddr_sound {t : TypeId} {x i q : PV} {u v : Value} (hx : Rep G x u) (hi : Rep G i v) (h : aIndexAddr P t x i = some q) (w : World) : ∃ r, (Instr.indexAt t u v).run P w = .ok r w ∧ Rep G q r := by
  unfold aIndexAddr at h
  split at h
  · rename_i elem k n hu
    cases hi
    simp only [Option.bind_eq_some_iff] at h
    obtain ⟨sz, hs, h⟩ := h
    obtain ⟨b, o, len, cap, rfl, h0, hlt, hrep⟩ := aindex_sound hx h
    exact ⟨_, by simp [Instr.indexAt, asIntOf, run_underlying hu, h0, hlt, runSize hs, addr_add] <;> rfl, hrep⟩
  · rename_i len elem k n hu
    cases hi
    split at h
    · rename_i id vl row off sz hs
      split at h
      · rename_i hc
        simp at h; subst h
        cases hx with
        | ptr hv =>
          refine ⟨_, by simp [Instr.indexAt, asIntOf, run_underlying hu, Instr.sureAddr, hc.1, hc.2, runSize hs, addr_add] <;> rfl, ?_⟩
          rw [Nat.add_assoc]; exact .ptr hv
      · cases h
    · rename_i c cells sz hs
      split at h
      · rename_i hc
        simp at h; subst h
        obtain ⟨b, o, rfl⟩ : ∃ b o, u = .pointer (some ⟨b, o, none⟩) := by cases hx; exact ⟨_, _, rfl⟩
        exact ⟨_, by simp [Instr.indexAt, asIntOf, run_underlying hu, Instr.sureAddr, hc.1, hc.2, runSize hs, addr_add] <;> rfl, rptr_drop hx⟩
      · cases h
    · cases h
  · cases h

theorem aIndex_sound {t : TypeId} {x i q : PV} {u v : Value} (hx : Rep G x u) (hi : Rep G i v) (h : aIndex P t x i = some q) (w : World) : ∃ r, (Instr.index t u v).run P w = .ok r w ∧ Rep G q r := by
  unfold aIndex at h
  split at h
  · rename_i s k n hu
    cases hi; cases hx
    split at h
    · rename_i hc
      simp at h; subst h
      exact ⟨_, by simp [Instr.index, asIntOf, run_underlying hu, hc.1, hc.2] <;> rfl, .val _⟩
    · cases h
  · rename_i len elem cells k n hu
    cases hi
    split at h
    · rename_i hc
      simp only [Option.bind_eq_some_iff] at h
      obtain ⟨sz, hs, h⟩ := h
      obtain ⟨us, rfl⟩ : ∃ us, u = .agg us := by cases hx; exact ⟨_, rfl⟩
      obtain ⟨r, hr, hrep⟩ := partOf_sound hx h
      exact ⟨r, by simp [Instr.index, asIntOf, run_underlying hu, hc.1, hc.2, runSize hs, hr], hrep⟩
    · cases h
  · cases h

theorem run_sliceBound {k : IntKind} {i : Int} {y : Nat} {code : BoundsCode} (h0 : 0 ≤ i) (h : i ≤ y) (w : World) : (Instr.sliceBound (.int k i) y code).run P w = .ok i.toNat w := by
  simp [Instr.sliceBound, asIntOf, h0, h]

theorem rep_empty {a : Option Addr} {cap : Nat} (h : (∃ b o, a = some ⟨b, o, none⟩) ∨ (a = none ∧ cap = 0)) : Rep G .nilS (.slice a 0 cap) := by
  rcases h with ⟨b, o, rfl⟩ | ⟨rfl, rfl⟩
  · exact .slice (rows := []) (fun _ _ => undef) (by simp) (by simp) (by simp) (by simp) (by simp)
  · exact .nilSlice

/-- A bound of a cut, as an operand's value. -/
def BoundIs (o : Option Int) (v : Option Value) : Prop := match o, v with
  | none, none => True
  | some i, some v => ∃ k, v = .int k i
  | _, _ => False

theorem run_bounds {isSlice : Bool} {len cap : Nat} {lo hi : Option Int} {vlo vhi : Option Value} (hl : BoundIs lo vlo) (hh : BoundIs hi vhi) (hlc : len ≤ cap)
    (h1 : 0 ≤ lo.getD 0) (h2 : lo.getD 0 ≤ hi.getD len) (h3 : hi.getD len ≤ (len : Int)) (w : World) :
    (Instr.sliceBounds isSlice len cap vlo vhi none).run P w = .ok ((lo.getD 0).toNat, (hi.getD len).toNat, cap) w := by
  unfold Instr.sliceBounds
  cases lo <;> cases hi <;> cases vlo <;> cases vhi <;> simp only [BoundIs] at hl hh <;> simp at h1 h2 h3
  · simp
  · obtain ⟨k, rfl⟩ := hh
    simp [run_sliceBound h2 (show _ ≤ (cap : Int) by omega)]
  · obtain ⟨k, rfl⟩ := hl
    simp [run_sliceBound h1 h2]
  · obtain ⟨k, rfl⟩ := hl
    obtain ⟨k', rfl⟩ := hh
    rename_i l h
    have : l ≤ (h.toNat : Int) := by omega
    simp [run_sliceBound (show 0 ≤ h by omega) (show h ≤ (cap : Int) by omega), run_sliceBound h1 this]

theorem acut_sound {t : TypeId} {x q : PV} {lo hi : Option Int} {u : Value} {vlo vhi : Option Value} (hx : Rep G x u) (hl : BoundIs lo vlo) (hh : BoundIs hi vhi)
    (ht : P.underlying t = some .string ∨ ∃ e sz, P.underlying t = some (.slice e) ∧ szOf P e = some sz ∧ ∀ c s rows, x = .slice c s rows → rows ≠ [] → s = sz) (h : acut x lo hi = some q) (w : World) :
    (∃ s, x = .val (.string s)) ∧ P.underlying t = some .string ∨ (∃ e, P.underlying t = some (.slice e)) ∧ (∀ s, x ≠ .val (.string s)) → ∃ r, (Instr.sliceAt t u vlo vhi none).run P w = .ok r w ∧ Rep G q r := by
  intro hkind
  unfold acut at h
  split at h
  · -- nil
    rcases hkind with ⟨⟨s, e⟩, _⟩ | ⟨⟨e, hu⟩, _⟩
    · cases e
    · cases hx
      split at h
      · rename_i hc
        simp at h; subst h
        obtain ⟨sz, hs⟩ : ∃ sz, szOf P e = some sz := by
          rcases ht with h' | ⟨e', sz, h1, h2, _⟩
          · rw [hu] at h'; cases h'
          · rw [hu] at h1; cases h1; exact ⟨sz, h2⟩
        have hb := run_bounds (P := P) (isSlice := true) (len := 0) (cap := 0) hl hh (Nat.le_refl _) (by omega) (by have := hc.2; cases hi <;> simp_all) (by have := hc.2; cases hi <;> simp_all) w
        refine ⟨.slice none 0 0, ?_, .val _⟩
        have e2 : (hi.getD ((0 : Nat) : Int)) = 0 := by have := hc.2; cases hi <;> simp_all
        rw [hc.1, e2] at hb
        simp [Instr.sliceAt, run_underlying hu, Instr.slice, hb, runSize hs]
      · cases h
  · rename_i c sz rows
    rcases hkind with ⟨⟨s, e⟩, _⟩ | ⟨⟨e, hu⟩, _⟩
    · cases e
    dsimp only at h
    split at h
    · rename_i hc
      obtain ⟨c1, c2, c3⟩ := hc
      simp at h; subst h
      obtain ⟨sz', hs, hsz⟩ : ∃ sz', szOf P e = some sz' ∧ (rows ≠ [] → sz = sz') := by
        rcases ht with h' | ⟨e', sz', h1, h2, h3⟩
        · rw [hu] at h'; cases h'
        · rw [hu] at h1; cases h1; exact ⟨sz', h2, h3 c sz rows rfl⟩
      cases hx with
      | slice vs g0 g1 g2 g3 g4 =>
        rename_i b o cap
        have hb := run_bounds (P := P) (isSlice := true) (len := rows.length) (cap := cap) hl hh g0 c1 c2 c3 w
        refine ⟨_, by simp [Instr.sliceAt, run_underlying hu, Instr.slice, hb, runSize hs] <;> rfl, ?_⟩
        generalize hL : (lo.getD 0).toNat = l at *
        generalize hHh : (hi.getD (rows.length : Int)).toNat = hh' at *
        by_cases he : l = hh'
        · have e0 : ((rows.take hh').drop l) = [] := by simp; omega
          rw [e0, show hh' - l = 0 by omega]
          refine rep_empty (.inl ?_)
          split
          · exact ⟨_, _, rfl⟩
          · exact ⟨_, _, by simp [addr_add]; exact ⟨rfl, rfl⟩⟩
        · have hlt : l < hh' := by omega
          have hle : hh' ≤ rows.length := by omega
          have hne : rows ≠ [] := fun e => by subst e; simp at hle; omega
          have hsz' := hsz hne
          subst hsz'
          have hlen : ((rows.take hh').drop l).length = hh' - l := by simp; omega
          obtain ⟨r0, rs, hrs⟩ : ∃ r0 rs, (rows.take hh').drop l = r0 :: rs := by
            cases e : (rows.take hh').drop l with
            | nil => rw [e] at hlen; simp at hlen; omega
            | cons a l => exact ⟨a, l, rfl⟩
          rw [show PV.sl c sz ((rows.take hh').drop l) = .slice c sz ((rows.take hh').drop l) by rw [hrs]; rfl]
          rw [if_neg (by omega), ← hlen]
          simp only [addr_add]
          have sub : ∀ (i : Nat) (r : List PV), ((rows.take hh').drop l)[i]? = some r → rows[l + i]? = some r := fun i r hi => by
            rw [List.getElem?_drop, List.getElem?_take] at hi
            split at hi
            · exact hi
            · cases hi
          refine .slice (fun i j => vs (l + i) j) (by rw [hlen]; omega) (fun i r hi => g1 _ r (sub i r hi)) (fun i r j p hi hj => ?_) (fun i r j p hi hj => g3 _ r j p (sub i r hi) hj) (fun i r j p hi hj => g4 _ r j p (sub i r hi) hj)
          have := g2 _ r j p (sub i r hi) hj
          rw [Nat.add_mul] at this
          rw [← this]; congr 1; omega
      | nilSlice =>
        have hb := run_bounds (P := P) (isSlice := true) (len := 0) (cap := 0) hl hh (Nat.le_refl _) c1 c2 c3 w
        simp only [List.length_nil, Int.natCast_zero] at c2 c3
        have e1 : lo.getD 0 = 0 := by omega
        have e2 : hi.getD 0 = 0 := by omega
        rw [e1] at hb
        simp [e2] at hb
        refine ⟨.slice none 0 0, ?_, ?_⟩
        · simp [Instr.sliceAt, run_underlying hu, Instr.slice, hb, runSize hs]
        · simp; exact .nilSlice
      | emptySlice =>
        rename_i cap a _
        have hb := run_bounds (P := P) (isSlice := true) (len := 0) (cap := cap) hl hh (Nat.zero_le _) c1 c2 c3 w
        simp only [List.length_nil, Int.natCast_zero] at c2 c3
        have e1 : lo.getD 0 = 0 := by omega
        have e2 : hi.getD 0 = 0 := by omega
        rw [e1] at hb
        simp [e2] at hb
        refine ⟨.slice (some a) 0 cap, ?_, ?_⟩
        · simp [Instr.sliceAt, run_underlying hu, Instr.slice, hb, runSize hs, Addr.add]
        · simp; exact .emptySlice
    · cases h
  · rename_i s
    rcases hkind with ⟨_, hu⟩ | ⟨_, hn⟩
    · cases hx
      dsimp only at h
      split at h
      · rename_i hc
        simp at h; subst h
        have hb := run_bounds (P := P) (isSlice := false) (len := s.size) (cap := s.size) hl hh (Nat.le_refl _) hc.1 hc.2.1 hc.2.2 w
        exact ⟨_, by simp [Instr.sliceAt, run_underlying hu, Instr.slice, hb] <;> rfl, .val _⟩
      · cases h
    · exact absurd rfl (hn s)
  · cases h

def RepOpt (G : Gh) : Option PV → Option Value → Prop
  | none, none => True
  | some p, some v => Rep G p v
  | _, _ => False

theorem aBound_sound {o : Option PV} {v : Option Value} {l : Option Int} (h : aBound o = some l) (hr : RepOpt G o v) : BoundIs l v := by
  unfold aBound at h
  split at h
  · simp at h; subst h; cases v <;> simp_all [BoundIs, RepOpt]
  · simp at h; subst h
    cases v with
    | none => simp [RepOpt] at hr
    | some v => simp [RepOpt] at hr; cases hr; exact ⟨_, rfl⟩
  · cases h

theorem aCutOp_sound {t : TypeId} {x q : PV} {lo hi : Option PV} {u : Value} {vlo vhi : Option Value} (hx : Rep G x u) (hl : RepOpt G lo vlo)
    (hh : RepOpt G hi vhi) (h : aCutOp P t x lo hi = some q) (w : World) : ∃ r, (Instr.sliceAt t u vlo vhi none).run P w = .ok r w ∧ Rep G q r := by
  unfold aCutOp at h
  split at h
  case isFalse => cases h
  rename_i hok
  simp only [Option.bind_eq_some_iff] at h
  obtain ⟨l, e1, l', e2, h⟩ := h
  have b1 := aBound_sound e1 hl
  have b2 := aBound_sound e2 hh
  unfold cutOk at hok
  split at hok
  · rename_i s hu
    exact acut_sound hx b1 b2 (.inl hu) h w (.inl ⟨⟨s, rfl⟩, hu⟩)
  · rename_i e hu
    obtain ⟨sz, hs⟩ := Option.isSome_iff_exists.1 hok
    exact acut_sound hx b1 b2 (.inr ⟨e, sz, hu, hs, fun c s rows e => by cases e⟩) h w (.inr ⟨⟨e, hu⟩, fun s e => by cases e⟩)
  · rename_i e c s rows hu
    split at hok
    · rename_i sz hs
      exact acut_sound hx b1 b2 (.inr ⟨e, sz, hu, hs, fun c' s' rows' e hne => by
        cases e
        cases rows with
        | nil => exact absurd rfl hne
        | cons a l => simpa using hok⟩) h w (.inr ⟨⟨e, hu⟩, fun s e => by cases e⟩)
    · cases hok
  · cases hok

theorem aBuild_go_sound (fs : Array Field) (places : Nat → Option (Nat × Nat)) (hpl : ∀ (i : Nat) (f : Field) (sz : Nat), fs[i]? = some f → szOf P f.type = some sz → places i = some (f.offset, sz)) :
    ∀ (parts : List (Nat × PV)) (vparts : List (Nat × Value)) (cells cells' : List PV) (vs : Array Value), parts.length = vparts.length →
    (∀ (i : Nat) (x : Nat × PV) (y : Nat × Value), parts[i]? = some x → vparts[i]? = some y → x.1 = y.1 ∧ Rep G x.2 y.2) → Rep G (.agg cells) (.agg vs) → aBuild.go P fs cells parts = some cells' →
    ∃ vs', Instr.fill places vs vparts = some vs' ∧ Rep G (.agg cells') (.agg vs')
  | [], vparts, cells, cells', vs, hlen, _, hrep, hgo => by
    cases vparts with
    | nil => simp [aBuild.go] at hgo; subst hgo; exact ⟨vs, rfl, hrep⟩
    | cons a l => simp at hlen
  | (i, p) :: rest, vparts, cells, cells', vs, hlen, hp, hrep, hgo => by
    cases vparts with
    | nil => simp at hlen
    | cons y l =>
      obtain ⟨i', v⟩ := y
      obtain ⟨hi, hpv⟩ := hp 0 (i, p) (i', v) rfl rfl
      simp at hi; subst hi
      unfold aBuild.go at hgo
      split at hgo
      case h_2 => cases hgo
      rename_i f hf
      split at hgo
      case h_2 => cases hgo
      rename_i sz hs
      split at hgo
      case isFalse => cases hgo
      rename_i hc
      obtain ⟨hok, hcl, hle⟩ := hc
      obtain ⟨c1, c2, c3⟩ := hpv.cells hok
      have hvsz : v.cells.size = sz := by rw [← c1]; exact hcl
      cases hrep with
      | agg h1 h2 h3 =>
        have key : Rep G (.agg (splice cells f.offset p.cells)) (.agg (writeAll vs f.offset v.cells.toList)) := by
          refine .agg (by rw [splice_length (by omega), writeAll_size]; exact h1) (fun j u hu => ?_) (fun j q u hq hu => ?_)
          · rw [writeAll_get _ _ _ _ (by simp; omega)] at hu
            split at hu
            · exact c3 _ u (by simpa using hu)
            · exact h2 _ u hu
          · rw [writeAll_get _ _ _ _ (by simp; omega)] at hu
            rw [splice_get (by omega)] at hq
            by_cases hin : f.offset ≤ j ∧ j < f.offset + p.cells.length
            · rw [if_pos hin] at hq
              rw [if_pos (by simp; omega)] at hu
              exact c2 _ q u hq (by simpa using hu)
            · rw [if_neg hin] at hq
              rw [if_neg (by simp; omega)] at hu
              exact h3 _ q u hq hu
        obtain ⟨vs', e, hr⟩ := aBuild_go_sound fs places hpl rest l _ cells' _ (by simpa using hlen) (fun k x y hx hy => hp (k + 1) x y (by simpa using hx) (by simpa using hy)) key hgo
        refine ⟨vs', ?_, hr⟩
        rw [← e]
        simp only [Instr.fill, hpl i f sz hf hs, hvsz]
        rw [if_neg (by simp; omega)]
        congr 1
        have := foldl_write f.offset v.cells.toList 0 vs
        rw [Nat.add_zero] at this
        rw [← this, ← Array.foldl_toList]
        simp

theorem run_mapM_sizes (fs : Array Field) (h : ∀ f ∈ fs, ∃ n, szOf P f.type = some n) (w : World) :
    (fs.mapM fun f => do pure (f.offset, ← sizeOf f.type) : Sem (Array (Nat × Nat))).run P w = .ok (fs.map fun f => (f.offset, (szOf P f.type).getD 0)) w := by
  rw [Array.mapM_eq_mapM_toList]
  have key : ∀ l : List Field, (∀ f ∈ l, ∃ n, szOf P f.type = some n) → (l.mapM fun f => do pure (f.offset, ← sizeOf f.type) : Sem (List (Nat × Nat))).run P w = .ok (l.map fun f => (f.offset, (szOf P f.type).getD 0)) w := by
    intro l
    induction l with
    | nil => intro _; rfl
    | cons f l ih =>
      intro hl
      obtain ⟨n, hn⟩ := hl f (by simp)
      rw [List.mapM_cons]
      simp only [Sem.run_bind, runSize hn, Result.andThen_ok, Sem.run_pure, ih (fun g hg => hl g (by simp [hg])), List.map_cons, hn, Option.getD_some]
  show Sem.run P (Bind.bind (fs.toList.mapM fun f => do pure (f.offset, ← sizeOf f.type) : Sem (List (Nat × Nat))) (pure ∘ List.toArray)) w = _
  rw [Sem.run_bind, key fs.toList (by simpa using h)]
  simp only [Result.andThen_ok, Function.comp, Sem.run_pure]
  congr 1
  apply Array.ext'
  simp

theorem aBuild_sound {t : TypeId} {parts : List (Nat × PV)} {vparts : List (Nat × Value)} {q : PV} (hlen : parts.length = vparts.length)
    (hp : ∀ (i : Nat) (x : Nat × PV) (y : Nat × Value), parts[i]? = some x → vparts[i]? = some y → x.1 = y.1 ∧ Rep G x.2 y.2) (h : aBuild P t parts = some q) (w : World) :
    ∃ r, (Instr.build t vparts.toArray).run P w = .ok r w ∧ Rep G q r := by
  unfold aBuild at h
  split at h
  case h_2 => cases h
  rename_i fs zs hu hz
  split at h
  case isFalse => cases h
  rename_i hc
  obtain ⟨hat, hall⟩ := hc
  have hsizes : ∀ f ∈ fs, ∃ n, szOf P f.type = some n := fun f hf => by
    rw [List.all_eq_true] at hall
    exact Option.isSome_iff_exists.1 (hall f (by simpa using hf))
  simp only [Option.map_eq_some_iff] at h
  obtain ⟨cells', hgo, rfl⟩ := h
  obtain ⟨z, hzr, rfl⟩ := runZero hz w
  have hzrep : Rep G (.agg (z.cells.toList.map .val)) (.agg z.cells) := by
    refine .agg (by simp) (fun j v hv => ?_) (fun j p v hj hv => ?_)
    · rw [List.all_eq_true] at hat
      exact atomic_val (hat (.val v) (List.mem_map.2 ⟨v, by simpa using Array.mem_of_getElem? hv, rfl⟩))
    · rw [List.getElem?_map] at hj
      simp only [Option.map_eq_some_iff] at hj
      obtain ⟨v', hv', rfl⟩ := hj
      rw [show v = v' by simpa [hv] using hv']
      exact .val _
  obtain ⟨vs', hf, hr⟩ := aBuild_go_sound (G := G) fs (fun i => (fs.map fun f => (f.offset, (szOf P f.type).getD 0))[i]?) (fun i f sz h1 h2 => by simp [h1, h2]) parts vparts _ cells' z.cells hlen hp hzrep hgo
  refine ⟨.agg vs', ?_, hr⟩
  simp only [Instr.build, Sem.run_bind, hzr, Result.andThen_ok, run_underlying hu]
  rw [run_mapM_sizes fs hsizes]
  simp only [Result.andThen_ok]
  rw [hf]
  simp

end
end Go.Abs
