/- The abstract layer, part 8: operations on values alone. -/
import Derived.Test.YtahkpjbhjkmedaaK7
import Derived.Laws.StructEq
namespace Go.Abs
set_option autoImplicit false

/-- Equality of what is one cell, of a kind. -/
def aEqCell (d : TypeDesc) (p q : PV) : Option Bool :=
  match d, p, q with
  | .bool, .val (.bool a), .val (.bool b) => some (a == b)
  | .int _, .val (.int k a), .val (.int k' b) => if k = k' then some (a == b) else none
  | .string, .val (.string a), .val (.string b) => some (a == b)
  | _, _, _ => none

def aEqIn (P : Program) : Nat → TypeId → PV → PV → Option Bool
  | 0, _, _, _ => none
  | d + 1, t, p, q =>
    match P.underlying t, p, q with
    | some (.struct _), .agg xs, .agg ys => if P.stoodInHeld t = false then go d xs ys (P.fieldsOf t).toList else none
    | some desc, p, q => aEqCell desc p q
    | none, _, _ => none
where
  go (d : Nat) (xs ys : List PV) : List Field → Option Bool
    | [] => some true
    | f :: fs => if f.name ≠ "_" then
        match partOf P f.type xs f.offset, partOf P f.type ys f.offset with
        | some a, some b => match aEqIn P d f.type a b, go d xs ys fs with
          | some r, some s => some (r && s)
          | _, _ => none
        | _, _ => none
      else go d xs ys fs

section
variable {P : Program} {G : Gh} {H : AS} {w : World}

theorem rep_val {v : Value} {x : Value} (h : Rep G (.val v) x) : x = v := by cases h; rfl

theorem aEqCell_sound {p q : PV} {u v : Value} {d : Nat} {t : TypeId} {ds : TypeDesc} {b : Bool} (ht : P.underlying t = some ds) (hp : Rep G p u) (hq : Rep G q v) (h : aEqCell ds p q = some b) :
    (Op.equalIn (d + 1) t u v).run P w = .ok b w := by
  unfold aEqCell at h
  split at h
  · cases hp; cases hq; simp at h; simp [Op.equalIn, run_underlying ht, h]
  · split at h
    · rename_i e; subst e; cases hp; cases hq; simp at h; simp [Op.equalIn, run_underlying ht, h]
    · cases h
  · cases hp; cases hq; simp at h; simp [Op.equalIn, run_underlying ht, h]
  · cases h

theorem partOf_sound {t : TypeId} {xs : List PV} {vs : Array Value} {off : Nat} {p : PV} (h : Rep G (.agg xs) (.agg vs)) (hp : partOf P t xs off = some p) : ∃ v, (∀ w, (part t vs off).run P w = .ok v w) ∧ Rep G p v := by
  cases h with
  | agg hlen h1 h2 =>
    unfold partOf at hp
    split at hp
    · rename_i sz ha hs
      split at hp
      · rename_i hle
        simp at hp
        subst hp
        refine ⟨.agg (vs.extract off (off + sz)), fun w => by simp [part, runAgg ha, runSize hs], ?_⟩
        refine .agg (by simp; omega) (fun j v hv => ?_) (fun j p v hj hv => ?_)
        · simp [Array.getElem?_extract] at hv
          exact h1 _ v hv.2
        · rw [List.getElem?_take] at hj
          split at hj
          · rw [List.getElem?_drop] at hj
            simp [Array.getElem?_extract] at hv
            exact h2 _ p v hj hv.2
          · cases hj
      · cases hp
    · rename_i _ ha
      have hlt : off < vs.size := by rw [← hlen]; exact (List.getElem?_eq_some_iff.1 hp).1
      exact ⟨vs[off], fun w => by simp [part, runAgg ha, hlt], h2 off p _ hp (by simp [hlt])⟩
    · cases hp

theorem aEqIn_sound : ∀ (d : Nat) {t : TypeId} {p q : PV} {u v : Value} {b : Bool}, Rep G p u → Rep G q v → aEqIn P d t p q = some b → ∀ w, (Op.equalIn d t u v).run P w = .ok b w
  | 0, t, p, q, u, v, b, _, _, h => by simp [aEqIn] at h
  | d + 1, t, p, q, u, v, b, hp, hq, h => by
    intro w
    unfold aEqIn at h
    split at h
    · rename_i fs xs ys hu
      split at h
      · rename_i hst
        obtain ⟨us, rfl⟩ : ∃ us, u = .agg us := by cases hp; exact ⟨_, rfl⟩
        obtain ⟨vs, rfl⟩ : ∃ vs, v = .agg vs := by cases hq; exact ⟨_, rfl⟩
        have hf : P.fieldsOf t = fs := by simp [Program.fieldsOf, hu]
        rw [run_equalIn_struct w d t us vs (by rw [hf]; exact hu) hst]
        revert h
        generalize (P.fieldsOf t).toList = l
        induction l generalizing b with
        | nil => intro h; simp [aEqIn.go] at h; simp [Op.eqFields, h]
        | cons f fs ih =>
          intro h
          unfold aEqIn.go at h
          unfold Op.eqFields
          split at h
          · rename_i hn
            simp only [hn, ne_eq, not_false_eq_true, if_true]
            split at h
            · rename_i a b' ha hb
              split at h
              · rename_i r s hr hs
                simp at h
                obtain ⟨x, hx, rx⟩ := partOf_sound hp ha
                obtain ⟨y, hy, ry⟩ := partOf_sound hq hb
                simp only [Sem.run_bind, hx, hy, Result.andThen_ok, aEqIn_sound d rx ry hr w]
                cases r with
                | false => simp at h; simp [h]
                | true => simp at h; subst h; simp [ih s hs]
              · cases h
            · cases h
          · rename_i hn
            have hn' : f.name = "_" := by simpa using hn
            simp only [hn', ne_eq, not_true_eq_false, if_false]
            exact ih b h
      · cases h
    · rename_i desc hu _
      exact aEqCell_sound hu hp hq h
    · cases h

/-- Arithmetic and comparison of literals. -/
def aBinV (op : BinOp) (x y : Value) : Option Value :=
  match op, x, y with
  | .shl, .int k a, .int _ b => if 0 ≤ b then some (.int k (k.wrap (a * 2 ^ min b.toNat k.bits))) else none
  | .shr, .int k a, .int _ b => if 0 ≤ b then some (.int k (a.fdiv (2 ^ min b.toNat k.bits))) else none
  | .add, .int k a, .int k' b => if k = k' then some (.int k (k.wrap (a + b))) else none
  | .sub, .int k a, .int k' b => if k = k' then some (.int k (k.wrap (a - b))) else none
  | .mul, .int k a, .int k' b => if k = k' then some (.int k (k.wrap (a * b))) else none
  | .quo, .int k a, .int k' b => if k = k' ∧ b ≠ 0 then some (.int k (k.wrap (a.tdiv b))) else none
  | .rem, .int k a, .int k' b => if k = k' ∧ b ≠ 0 then some (.int k (a.tmod b)) else none
  | .and, .int k a, .int k' b => if k = k' then some (.int k (k.wrap ((BitVec.ofInt k.bits a) &&& (BitVec.ofInt k.bits b)).toNat)) else none
  | .or, .int k a, .int k' b => if k = k' then some (.int k (k.wrap ((BitVec.ofInt k.bits a) ||| (BitVec.ofInt k.bits b)).toNat)) else none
  | .xor, .int k a, .int k' b => if k = k' then some (.int k (k.wrap ((BitVec.ofInt k.bits a) ^^^ (BitVec.ofInt k.bits b)).toNat)) else none
  | .eql, .int k a, .int k' b => if k = k' then some (.bool (a == b)) else none
  | .neq, .int k a, .int k' b => if k = k' then some (.bool (a != b)) else none
  | .lss, .int k a, .int k' b => if k = k' then some (.bool (decide (a < b))) else none
  | .leq, .int k a, .int k' b => if k = k' then some (.bool (decide (a ≤ b))) else none
  | .gtr, .int k a, .int k' b => if k = k' then some (.bool (decide (a > b))) else none
  | .geq, .int k a, .int k' b => if k = k' then some (.bool (decide (a ≥ b))) else none
  | .add, .string a, .string b => if a.size + b.size ≤ 2 ^ 62 then some (.string (a ++ b)) else none
  | .eql, .string a, .string b => some (.bool (a == b))
  | .neq, .string a, .string b => some (.bool (!(a == b)))
  | .lss, .string a, .string b => some (.bool (Op.bytesLess a.toList b.toList))
  | .gtr, .string a, .string b => some (.bool (!(Op.bytesLess a.toList b.toList || a.toList == b.toList)))
  | _, _, _ => none

set_option linter.unusedSimpArgs false in
theorem aBinV_sound {op : BinOp} {x y r : Value} {t : TypeId} (h : aBinV op x y = some r) (xo yo : Operand) (w : World) : (do eqGuard op t xo yo x y; binOp op t x y : Sem Value).run P w = .ok r w := by
  unfold aBinV at h
  split at h <;> (try split at h) <;> simp at h <;> (try subst_vars) <;> (try obtain ⟨rfl, _⟩ := ‹_ ∧ _›) <;>
    simp_all [binOp, Op.shift, Op.intArith, Op.intDiv, Op.intBits, Op.intCmp, Op.stringOp, beq_toListBytes, eqGuard_add, eqGuard_sub, eqGuard_mul, eqGuard_quo, eqGuard_rem, eqGuard_and, eqGuard_or, eqGuard_xor, eqGuard_shl, eqGuard_shr, eqGuard_lss, eqGuard_leq, eqGuard_gtr, eqGuard_geq, eqGuard_at_int, eqGuard_at_string]
  all_goals (first | (intro hlt; exact absurd hlt (by omega)) | omega)

end
end Go.Abs
