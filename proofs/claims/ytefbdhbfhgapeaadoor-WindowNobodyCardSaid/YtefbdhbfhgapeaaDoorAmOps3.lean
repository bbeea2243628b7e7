/- Am: nil; fields; indexes; pieces of slices and strings. -/
import Derived.Test.YtefbdhbfhgapeaaDoorAmOps2
namespace Go.Am
section
variable {P : Program} {G : Tie} {w : World}

def NK.nilV : NK → Value
  | .ptr => .pointer none
  | .func => .nilFunc
  | .iface => .nilIface
  | .map => .map none
  | .slice => .slice none 0 0

theorem nil_ptr {t e : TypeId} {x : V} {rx : Value} {b : Bool} (ht : P.underlying t = some (.pointer e)) (hx : RepV G x rx) (hb : isNil .ptr x = some b) (m : Nat) :
    (Op.equalIn (m + 1) t rx (.pointer none)).run P w = .ok b w ∧ (Op.equalIn (m + 1) t (.pointer none) rx).run P w = .ok b w := by
  have key : ∀ p : Option Addr, (Op.equalIn (m + 1) t (.pointer p) (.pointer none)).run P w = .ok p.isNone w ∧ (Op.equalIn (m + 1) t (.pointer none) (.pointer p)).run P w = .ok p.isNone w := by
    intro p
    cases p <;> simp only [Op.equalIn, Sem.run_bind, run_underlying ht w, Result.andThen_ok] <;> exact ⟨rfl, rfl⟩
  obtain ⟨p, rfl, rfl⟩ : ∃ p, rx = .pointer p ∧ b = p.isNone := by
    unfold isNil at hb
    split at hb <;> first | (simp at hb; done) | skip
    all_goals (injection hb with hb; subst hb)
    all_goals simp_all only [reduceCtorEq, RepV]
    · obtain ⟨rfl, _⟩ := hx; exact ⟨none, rfl, rfl⟩
    · obtain ⟨_, rfl⟩ := hx; exact ⟨_, rfl, rfl⟩
    · obtain ⟨_, a, rfl, _⟩ := hx; exact ⟨_, rfl, rfl⟩
    · obtain ⟨_, o, rfl, _⟩ := hx; exact ⟨_, rfl, rfl⟩
  exact key p

theorem nil_func {t : TypeId} {ps rs : Array TypeId} {vd : Bool} {x : V} {rx : Value} {b : Bool} (ht : P.underlying t = some (.func ps rs vd)) (hx : RepV G x rx) (hb : isNil .func x = some b) (m : Nat) :
    (Op.equalIn (m + 1) t rx .nilFunc).run P w = .ok b w ∧ (Op.equalIn (m + 1) t .nilFunc rx).run P w = .ok b w := by
  unfold isNil at hb
  split at hb <;> first | (simp at hb; done) | skip
  all_goals (injection hb with hb; subst hb)
  all_goals simp_all only [reduceCtorEq, RepV]
  · obtain ⟨rfl, _⟩ := hx
    simp only [Op.equalIn, Sem.run_bind, run_underlying ht w, Result.andThen_ok]
    exact ⟨rfl, rfl⟩
  · obtain ⟨ra, rc, rfl, _⟩ := hx
    simp only [Op.equalIn, Sem.run_bind, run_underlying ht w, Result.andThen_ok]
    exact ⟨rfl, rfl⟩

theorem nil_iface {t : TypeId} {ms : Array (String × TypeId)} {x : V} {rx : Value} {b : Bool} (ht : P.underlying t = some (.interface ms)) (hx : RepV G x rx) (hb : isNil .iface x = some b) (m : Nat) :
    (Op.equalIn (m + 1) t rx .nilIface).run P w = .ok b w ∧ (Op.equalIn (m + 1) t .nilIface rx).run P w = .ok b w := by
  unfold isNil at hb
  split at hb <;> first | (simp at hb; done) | skip
  all_goals (injection hb with hb; subst hb)
  all_goals simp_all only [reduceCtorEq, RepV]
  · obtain ⟨rfl, _⟩ := hx
    simp only [Op.equalIn, Sem.run_bind, run_underlying ht w, Result.andThen_ok]
    exact ⟨rfl, rfl⟩
  · obtain ⟨rv, rfl, _⟩ := hx
    simp only [Op.equalIn, Sem.run_bind, run_underlying ht w, Result.andThen_ok]
    exact ⟨rfl, rfl⟩

theorem nil_map {t k e : TypeId} {x : V} {rx : Value} {b : Bool} (ht : P.underlying t = some (.map k e)) (hx : RepV G x rx) (hb : isNil .map x = some b) (m : Nat) :
    (Op.equalIn (m + 1) t rx (.map none)).run P w = .ok b w ∧ (Op.equalIn (m + 1) t (.map none) rx).run P w = .ok b w := by
  unfold isNil at hb
  split at hb <;> first | (simp at hb; done) | skip
  all_goals (injection hb with hb; subst hb)
  all_goals simp_all only [reduceCtorEq, RepV]
  · obtain ⟨rfl, _⟩ := hx
    simp only [Op.equalIn, Sem.run_bind, run_underlying ht w, Result.andThen_ok]
    exact ⟨rfl, rfl⟩
  · obtain ⟨_, rfl⟩ := hx
    simp only [Op.equalIn, Sem.run_bind, run_underlying ht w, Result.andThen_ok]
    exact ⟨rfl, rfl⟩

theorem nil_slice {t e : TypeId} {x : V} {rx : Value} {b : Bool} (ht : P.underlying t = some (.slice e)) (hx : RepV G x rx) (hb : isNil .slice x = some b) (m : Nat) :
    (Op.equalIn (m + 1) t rx (.slice none 0 0)).run P w = .ok b w ∧ (Op.equalIn (m + 1) t (.slice none 0 0) rx).run P w = .ok b w := by
  have key : ∀ (p : Option Addr) (l c : Nat), (Op.equalIn (m + 1) t (.slice p l c) (.slice none 0 0)).run P w = .ok p.isNone w ∧ (Op.equalIn (m + 1) t (.slice none 0 0) (.slice p l c)).run P w = .ok p.isNone w := by
    intro p l c
    cases p <;> simp only [Op.equalIn, Sem.run_bind, run_underlying ht w, Result.andThen_ok] <;> exact ⟨rfl, rfl⟩
  obtain ⟨p, l, c, rfl, rfl⟩ : ∃ p l c, rx = .slice p l c ∧ b = p.isNone := by
    unfold isNil at hb
    split at hb <;> first | (simp at hb; done) | skip
    all_goals (injection hb with hb; subst hb)
    all_goals simp_all only [reduceCtorEq, RepV]
    · obtain ⟨rfl, _⟩ := hx; exact ⟨none, 0, 0, rfl, rfl⟩
    · obtain ⟨_, a, c, rfl, _⟩ := hx; exact ⟨_, _, _, rfl, rfl⟩
    · obtain ⟨a, c, rfl, _, _, _, b, o, ha, _, _⟩ := hx; rw [ha (by simp)]; exact ⟨_, _, _, rfl, rfl⟩
  exact key p l c


/-- A comparison with nil. -/
theorem isNil_run {t : TypeId} {d : TypeDesc} {k : NK} {x : V} {rx : Value} {b neg : Bool} (ht : P.underlying t = some d) (hk : nkOf d = some k) (hx : RepV G x rx) (hb : isNil k x = some b)
    (ox oy : Operand) (hc : (∃ v, ox = .const v) ∨ (∃ v, oy = .const v)) :
    (do eqGuard (if neg then .neq else .eql) t ox oy rx k.nilV; binOp (if neg then .neq else .eql) t rx k.nilV : Sem Value).run P w = .ok (.bool (if neg then !b else b)) w ∧
    (do eqGuard (if neg then .neq else .eql) t ox oy k.nilV rx; binOp (if neg then .neq else .eql) t k.nilV rx : Sem Value).run P w = .ok (.bool (if neg then !b else b)) w := by
  have hE : (Op.equal t rx k.nilV).run P w = .ok b w ∧ (Op.equal t k.nilV rx).run P w = .ok b w := by
    cases d <;> simp only [nkOf, Option.some.injEq, reduceCtorEq] at hk <;> subst hk
    · exact nil_ptr ht hx hb 9999
    · exact nil_slice ht hx hb 9999
    · exact nil_map ht hx hb 9999
    · exact nil_func ht hx hb 9999
    · exact nil_iface ht hx hb 9999
  have hshape : (∃ p, rx = .pointer p) ∨ rx = .nilFunc ∨ (∃ f a c, rx = .func f a c) ∨ rx = .nilIface ∨ (∃ u v, rx = .iface u v) ∨ (∃ r, rx = .map r) ∨ (∃ p l c, rx = .slice p l c) := by
    unfold isNil at hb
    split at hb <;> first | (simp at hb; done) | skip
    all_goals simp only [RepV] at hx
    · exact .inl ⟨_, hx.1⟩
    · exact .inr (.inl hx.1)
    · exact .inr (.inr (.inr (.inl hx.1)))
    · exact .inr (.inr (.inr (.inr (.inr (.inl ⟨_, hx.1⟩)))))
    · exact .inr (.inr (.inr (.inr (.inr (.inr ⟨_, _, _, hx.1⟩)))))
    · exact .inl ⟨_, hx.2⟩
    · obtain ⟨_, a, e, _⟩ := hx; exact .inl ⟨_, e⟩
    · obtain ⟨_, o, e, _⟩ := hx; exact .inl ⟨_, e⟩
    · obtain ⟨ra, rc, e, _⟩ := hx; exact .inr (.inr (.inl ⟨_, _, _, e⟩))
    · obtain ⟨rv, e, _⟩ := hx; exact .inr (.inr (.inr (.inr (.inl ⟨_, _, e⟩))))
    · exact .inr (.inr (.inr (.inr (.inr (.inl ⟨_, hx.2⟩)))))
    · obtain ⟨_, a, c, e, _⟩ := hx; exact .inr (.inr (.inr (.inr (.inr (.inr ⟨_, _, _, e⟩)))))
    · obtain ⟨a, c, e, _⟩ := hx; exact .inr (.inr (.inr (.inr (.inr (.inr ⟨_, _, _, e⟩)))))
  have hG : ∀ (op : BinOp), (eqGuard op t ox oy rx k.nilV).run P w = .ok () w ∧ (eqGuard op t ox oy k.nilV rx).run P w = .ok () w := by
    intro op
    unfold eqGuard
    rcases hc with ⟨v, rfl⟩ | ⟨v, rfl⟩ <;> rcases hshape with ⟨p, rfl⟩ | rfl | ⟨f, a, c, rfl⟩ | rfl | ⟨u, v, rfl⟩ | ⟨r, rfl⟩ | ⟨p, l, c, rfl⟩ <;> cases k <;> cases op <;>
      first | exact ⟨rfl, rfl⟩ | (simp [NK.nilV]; done)
  have hB : ∀ (p q : Value), (p = rx ∧ q = k.nilV ∨ p = k.nilV ∧ q = rx) → (Op.equal t p q).run P w = .ok b w → (binOp .eql t p q).run P w = .ok (.bool b) w ∧ (binOp .neq t p q).run P w = .ok (.bool !b) w := by
    intro p q hpq he
    have h1 : binOp .eql t p q = (do pure (.bool (← Op.equal t p q))) ∧ binOp .neq t p q = (do pure (.bool (!(← Op.equal t p q)))) := by
      rcases hpq with ⟨rfl, rfl⟩ | ⟨rfl, rfl⟩ <;> rcases hshape with ⟨p, rfl⟩ | rfl | ⟨f, a, c, rfl⟩ | rfl | ⟨u, v, rfl⟩ | ⟨r, rfl⟩ | ⟨p, l, c, rfl⟩ <;> cases k <;> exact ⟨rfl, rfl⟩
    rw [h1.1, h1.2]
    simp only [Sem.run_bind, he, Result.andThen_ok]
    exact ⟨rfl, rfl⟩
  constructor
  · simp only [Sem.run_bind, (hG _).1, Result.andThen_ok]
    cases neg
    · exact (hB _ _ (.inl ⟨rfl, rfl⟩) hE.1).1
    · exact (hB _ _ (.inl ⟨rfl, rfl⟩) hE.1).2
  · simp only [Sem.run_bind, (hG _).2, Result.andThen_ok]
    cases neg
    · exact (hB _ _ (.inr ⟨rfl, rfl⟩) hE.2).1
    · exact (hB _ _ (.inr ⟨rfl, rfl⟩) hE.2).2

end
end Go.Am
