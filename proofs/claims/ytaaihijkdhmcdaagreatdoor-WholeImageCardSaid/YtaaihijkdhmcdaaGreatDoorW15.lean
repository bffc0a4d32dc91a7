/- WholeImage, part 16 of 41: contracts and lemmas of its proof. Conditions: none. -/
import Derived.Test.YtaaihijkdhmcdaaGreatDoorW03
import Derived.Defers
import Derived.Test.YtaaihijkdhmcdaaGreatDoorW01
set_option linter.unusedVariables false
set_option linter.unusedSimpArgs false
set_option maxRecDepth 100000
namespace Go.Proofs.YtaaihijkdhmcdaaGreatDoor
namespace Dq
open Go
class Dfs where
 ds:List Deferred
end Dq
namespace Dq
variable [Dfs]
open Go
structure Fits (n:Nat) (e:Env) (a:Act):Prop where
 size:a.tmps.size=n
 get:∀ k,a.tmps.getD k undef=e k
 defers:a.defers=Dfs.ds
theorem Fits.eval {n:Nat}{e:Env}{a:Act}(h:Fits n e a):a.eval=ev e:=by
 funext x
 cases x with
 | tmp t=>exact h.get t
 | const v=>rfl
 | global g=>rfl
 | func f=>rfl
theorem Fits.put {n:Nat}{e:Env}{a:Act}(h:Fits n e a)(d:Option Tmp)(v:Value)(hd:okDst n d=true):Fits n (putE e d v) (a.put d v):=by
 cases d with
 | none=>exact h
 | some d =>
  have hd':d<a.tmps.size:=by rw [h.size];simpa [okDst] using hd
  exact ⟨by simp [Act.put,h.size],fun k=>by
   show (a.tmps.setIfInBounds d v).getD k undef=upd e d v k
   rw [getD_set _ _ _ _ hd',h.get];rfl,h.defers⟩
theorem wantE_eq {n:Nat}{e:Env}{a:Act}(h:Fits n e a)(ops:Array Oper)(o:Oper):Region.wanted o (yielded ops a.tmps)=wantE ops e o.guard:=by
 unfold Region.wanted
 cases hg:o.guard with
 | none=>rfl
 | some p =>
  obtain ⟨j,want⟩:=p
  show (yielded ops a.tmps j==some want)=_
  unfold wantE
  congr 1
  unfold yielded
  cases hd:(ops[j]?).bind (·.dst) with
  | none=>rfl
  | some d =>
   show (match a.tmps[d]? with|some (.bool b)=>some b|_=>none)=_
   have hk:=h.get d
   rw [Array.getD_eq_getD_getElem?] at hk
   show _=(match e d with | .bool b=>some b|_=>none)
   rw [← hk]
   cases ht:a.tmps[d]? with
   | none=>rfl
   | some v=>cases v<;>rfl
def lift (n:Nat)(Q:Exit→Env→World→Prop):Exit→Act→World→Prop:=fun x a w=>∃ e,Fits n e a∧Q x e w
theorem opsR_sound {P:Program}{n:Nat}{ops:Array Oper}{Q:Exit→Env→World→Prop}:∀ (l:List Oper) (e:Env) (w:World) (a:Act),Fits n e a →
  opsR P n ops (Q .normal) l e w→wpList P ops (lift n Q) l a w:=by
 intro l
 induction l with
 | nil=>intro e w a hf h;exact ⟨e,hf,h⟩
 | cons o rest ih =>
  intro e w a hf h
  obtain ⟨hd,h⟩:=h
  unfold wpList
  rw [wantE_eq hf]
  split
  ·rename_i hw
   rw [if_pos hw] at h
   refine .inl ?_
   unfold Oper.wp
   rw [hf.eval]
   generalize (execOp (ev e) o).run P w=r at h
   cases r with
   | halt x w'=>exact h.elim
   | ok x w' =>
    cases x with
    | value v=>exact ih _ _ _ (hf.put _ v hd) h
    | skip=>exact ih _ _ _ (hf.put _ undef hd) h
    | enter f args =>
     refine Calls.mono h ?_
     rintro x w2 ⟨v,rfl,hv⟩
     exact ih _ _ _ (hf.put _ v hd) hv
    | _=>exact h.elim
  ·rename_i hw
   rw [if_neg hw] at h
   exact ih _ _ _ (hf.put _ undef hd) h
def wpR (P:Program)(n:Nat):Code→(Exit→Env→World→Prop)→Env→World→Prop
 | .skip,Q,e,w=>Q .normal e w
 | .region _ ops false,Q,e,w=>opsR P n ops (Q .normal) ops.toList e w
 | .seq x y,Q,e,w=>wpR P n x (seqR (wpR P n y Q) Q) e w
 | .cond c x y,Q,e,w=>condE (wpR P n x Q e w) (wpR P n y Q e w) ⟨⟩ (ev e c)
 | .block id x,Q,e,w=>wpR P n x (blockR id Q) e w
 | .exit id,Q,e,w=>Q (.exit id) e w
 | .ret,Q,e,w=>Q .ret e w
 | c,Q,e,w=>∀ a,Fits n e a→Code.wp P c (lift n Q) a w
def wpE (P:Program)(n:Nat)(c:Code)(Q:Exit→Env→World→Prop)(_:Tag (P,n,c,Q))(e:Env)(w:World):Prop:=wpR P n c Q e w
section
variable (P:Program) (n:Nat) (Q:Exit→Env→World→Prop) (K:Env→World→Prop) (e:Env) (w:World)
theorem wpE_skip (t:Tag (P,n,Code.skip,Q)):wpE P n .skip Q t e w=goE Q .normal ⟨⟩ e w:=by simp only [wpE,wpR,goE]
theorem wpE_region (id:Nat)(l:List Oper)(t:Tag (P,n,Code.region id l.toArray false,Q)):wpE P n (.region id l.toArray false) Q t e w=opsE P n l.toArray (Q .normal) l ⟨⟩ e w:=by simp only [wpE,wpR,opsE]
theorem wpE_seq (x y:Code)(t:Tag (P,n,Code.seq x y,Q)):wpE P n (.seq x y) Q t e w=wpE P n x (seqR (wpR P n y Q) Q) ⟨⟩ e w:=by simp only [wpE,wpR]
theorem wpE_cond (c:Operand)(x y:Code)(t:Tag (P,n,Code.cond c x y,Q)):wpE P n (.cond c x y) Q t e w=condE (wpE P n x Q ⟨⟩ e w) (wpE P n y Q ⟨⟩ e w) ⟨⟩ (ev e c):=by simp only [wpE,wpR]
theorem wpE_block (id:Nat)(x:Code)(t:Tag (P,n,Code.block id x,Q)):wpE P n (.block id x) Q t e w=wpE P n x (blockR id Q) ⟨⟩ e w:=by simp only [wpE,wpR]
theorem wpE_exit (id:Nat)(t:Tag (P,n,Code.exit id,Q)):wpE P n (.exit id) Q t e w=goE Q (.exit id) ⟨⟩ e w:=by simp only [wpE,wpR,goE]
theorem wpE_ret (t:Tag (P,n,Code.ret,Q)):wpE P n .ret Q t e w=goE Q .ret ⟨⟩ e w:=by simp only [wpE,wpR,goE]
theorem goE_seq (y:Code)(t:Tag (seqR (wpR P n y Q) Q,Exit.normal)):goE (seqR (wpR P n y Q) Q) .normal t e w=wpE P n y Q ⟨⟩ e w:=nr rfl
end
theorem wpR_sound {P:Program}{n:Nat}:∀ (c:Code) (Q:Exit→Env→World→Prop) (e:Env) (w:World) (a:Act),Fits n e a→wpR P n c Q e w→Code.wp P c (lift n Q) a w:=by
 intro c
 induction c with
 | skip=>intro Q e w a hf h;simp only [wpR] at h;exact wp_skip ⟨e,hf,h⟩
 | region id ops draw =>
  intro Q e w a hf h
  cases draw with
  | true=>simp only [wpR] at h;exact h a hf
  | false =>
   obtain ⟨l⟩:=ops
   simp only [wpR] at h
   exact wp_region_lit (opsR_sound l e w a hf h)
 | seq x y ihx ihy =>
  intro Q e w a hf h
  simp only [wpR] at h
  refine wp_seq (Code.wp_mono ?_ (ihx _ e w a hf h))
  rintro z a' w' ⟨e',hf',hq⟩
  cases z with
  | normal=>exact ihy Q e' w' a' hf' hq
  | _=>exact ⟨e',hf',hq⟩
 | cond c x y ihx ihy =>
  intro Q e w a hf h
  simp only [wpR] at h
  cases hv:ev e c with
  | bool b =>
   rw [hv] at h
   have hc:a.eval c=.bool b:=by rw [hf.eval];exact hv
   cases b with
   | true=>exact wp_cond hc (ihx Q e w a hf h)
   | false=>exact wp_cond hc (ihy Q e w a hf h)
  | _=>rw [hv] at h;exact h.elim
 | block id x ih =>
  intro Q e w a hf h
  simp only [wpR] at h
  refine wp_block (Code.wp_mono ?_ (ih _ e w a hf h))
  rintro z a' w' ⟨e',hf',hq⟩
  cases z with
  | exit i =>
   show if i=id then _ else _
   have hq':if i=id then Q .normal e' w' else Q (.exit i) e' w':=hq
   by_cases hi:i=id
   ·rw [if_pos hi] at hq' ⊢;exact ⟨e',hf',hq'⟩
   ·rw [if_neg hi] at hq' ⊢;exact ⟨e',hf',hq'⟩
  | _=>exact ⟨e',hf',hq⟩
 | exit id=>intro Q e w a hf h;simp only [wpR] at h;exact wp_exit ⟨e,hf,h⟩
 | ret=>intro Q e w a hf h;simp only [wpR] at h;exact wp_ret ⟨e,hf,h⟩
 | _=>intro Q e w a hf h;simp only [wpR] at h;exact h a hf
def roundsR (P:Program)(n:Nat)(c:Code)(Q:Exit→Env→World→Prop):Nat→Env→World→Prop
 | 0,_,_=>False
 | k+1,e,w=>wpR P n c (seqR (roundsR P n c Q k) Q) e w
def roundsE (P:Program)(n:Nat)(c:Code)(Q:Exit→Env→World→Prop)(k:Nat)(_:Tag (P,n,c,Q))(e:Env)(w:World):Prop:=roundsR P n c Q k e w
theorem roundsE_succ (P:Program)(n:Nat)(c:Code)(Q:Exit→Env→World→Prop)(k:Nat)(t:Tag (P,n,c,Q))(e:Env)(w:World):roundsE P n c Q (k+1) t e w=wpE P n c (seqR (roundsR P n c Q k) Q) ⟨⟩ e w:=nr rfl
attribute [go_sem] goE_seq
attribute [go_sem] wpE_skip wpE_region wpE_seq wpE_cond wpE_ret
end Dq
namespace Dq
variable [Dfs]
open Go
theorem stillR_sound {P:Program}{n:Nat}{ops:Array Oper}{w:World}{N:Env→Prop}{N':Act→Prop}(hN:∀ e a,Fits n e a→N e→N' a):∀ (l:List Oper) (e:Env) (a:Act),Fits n e a →
  stillR P n ops w N l e→wpStill P ops w N' l a:=by
 intro l
 induction l with
 | nil=>intro e a hf h;exact hN e a hf h
 | cons o rest ih =>
  intro e a hf h
  obtain ⟨hd,h⟩:=h
  unfold wpStill
  rw [wantE_eq hf]
  split
  ·rename_i hw
   rw [if_pos hw] at h
   unfold Oper.still
   rw [hf.eval]
   generalize (execOp (ev e) o).run P w=r at h
   cases r with
   | halt x w'=>exact h.elim
   | ok x w' =>
    cases x with
    | value v=>exact ⟨h.1,ih _ _ (hf.put _ v hd) h.2⟩
    | skip=>exact ⟨h.1,ih _ _ (hf.put _ undef hd) h.2⟩
    | enter f args =>
     obtain ⟨h1,v,h2,h3⟩:=h
     refine ⟨h1,v,Calls.mono h2 ?_,ih _ _ (hf.put _ v hd) h3⟩
     rintro x w2 ⟨u,rfl,rfl,rfl⟩
     exact ⟨rfl,rfl⟩
    | _=>exact h.elim
  ·rename_i hw
   rw [if_neg hw] at h
   exact ih _ _ (hf.put _ undef hd) h
theorem drawE_tail {P:Program}{n id:Nat}{l l1 l2:List Oper}{Q:Exit→Env→World→Prop}{t:Tag (P,n,Code.region id l.toArray true,Q)}{e:Env}{w:World}(k:Nat)(hm:P.follows .mixedOrders=true)(hB:Region.lexTailB .any l.toArray k=true)
  (h1:l.take k=l1) (h2:l.drop k=l2)
  (h:stillE P n l.toArray w.drew (fun e'=>opsE P n l.toArray (Q .normal) l2 ⟨⟩ e' w.drew) l1 ⟨⟩ e):wpE P n (.region id l.toArray true) Q t e w:=by
 subst h1;subst h2
 simp only [wpE,wpR]
 intro a hf
 exact wp_region_still_tail k hm hB (stillR_sound (fun e a hf hq=>opsR_sound _ e _ a hf hq) _ e a hf h)
end Dq
namespace Dq
open Go Go.RowKit
abbrev D0:Dfs:=⟨[]⟩
abbrev D1 (d:Deferred):Dfs:=⟨[d]⟩
def endR (R:Value→World→Prop):Ending→World→Prop:=fun x w=>∃ v,x=.returned v∧R v w
def wpX [Dfs](P:Program)(QD:Exit→Act→World→Prop)(n:Nat)(c:Code)(e:Env)(w:World):Prop:=∀ a,Fits n e a→c.wp P QD a w
def outR [Dfs](P:Program)(fn:Func)(R:Value→World→Prop):Exit→Env→World→Prop
 | .ret,e,w=>∀ tmps:Array Value,(∀ k,tmps.getD k undef=e k)→Leaves P fn tmps (endR R) Dfs.ds .returning w
 | _,_,_=>False
theorem rawSeq [Dfs]{P:Program}{fn:Func}{R:Value→World→Prop}{n:Nat}{x y:Code}{e:Env}{w:World}(h:wpE P n x (seqR (fun e w=>wpX P (bodyPostD P fn (endR R)) n y e w) (outR P fn R)) ⟨⟩ e w) :
  wpX P (bodyPostD P fn (endR R)) n (.seq x y) e w:=by
 intro a hf
 refine wp_seq (Code.wp_mono ?_ (wpR_sound x _ e w a hf h))
 rintro z a' w' ⟨e',hf',hq⟩
 cases z with
 | normal=>exact hq a' hf'
 | ret =>
  show Leaves P fn a'.tmps (endR R) a'.defers .returning w'
  rw [hf'.defers]
  exact hq a'.tmps hf'.get
 | _=>exact hq.elim
theorem rawAll [Dfs]{P:Program}{fn:Func}{R:Value→World→Prop}{n:Nat}{x:Code}{e:Env}{w:World}(h:wpE P n x (outR P fn R) ⟨⟩ e w):wpX P (bodyPostD P fn (endR R)) n x e w:=by
 intro a hf
 refine Code.wp_mono ?_ (wpR_sound x _ e w a hf h)
 rintro z a' w' ⟨e',hf',hq⟩
 cases z with
 | ret =>
  show Leaves P fn a'.tmps (endR R) a'.defers .returning w'
  rw [hf'.defers]
  exact hq a'.tmps hf'.get
 | _=>exact hq.elim
theorem goE_raw {K:Env→World→Prop}{Q:Exit→Env→World→Prop}{t:Tag (seqR K Q,Exit.normal)}{e:Env}{w:World}(h:K e w):goE (seqR K Q) .normal t e w:=h
theorem rawDefer {P:Program}{fn:Func}{R:Value→World→Prop}{n id d1:Nat}{G:FuncId}{first:Array Operand}{cap:Array Operand}{capv:Array Value}{ty1 ty2:TypeId}{pos1 pos2:String}{af1 af2:Array Edge}{y:Code}{e:Env}{w:World}(hd:d1<n)
  (h:@wpX (D1 ⟨.fn (.func G) capv,#[]⟩) P (bodyPostD P fn (endR R)) n y (upd e d1 (.func (.func G) #[] capv)) w) (hfirst:first=#[]) (hcap:cap.map (ev e)=capv) :
  @wpX D0 P (bodyPostD P fn (endR R)) n (.seq (.region id [⟨some d1,.makeFunc (.func G) first cap,ty1,pos1,af1,none⟩,⟨none,.defer ⟨.value (.tmp d1),#[],#[]⟩,ty2,pos2,af2,none⟩].toArray false) y) e w:=by
 subst hfirst
 subst hcap
 intro a hf
 refine wp_seq (wp_region_lit ?_)
 have hev:a.eval=ev e:=@Fits.eval D0 n e a hf
 refine wpList_plain rfl fun K hK=>?_
 have h1:(execOp a.eval ⟨some d1,.makeFunc (.func G) #[] cap,ty1,pos1,af1,none⟩).run P w=.ok (.value (.func (.func G) #[] (cap.map (ev e)))) w:=by
  rw [hev];simp [go_sem]
 unfold Oper.wp
 rw [h1,Oper.upon_value]
 have hf1:=@Fits.put D0 n e a hf (some d1) (.func (.func G) #[] (cap.map (ev e))) (by simpa [okDst] using hd)
 refine hK _ _ (wpList_plain rfl fun K2 hK2=>?_)
 have hev1:=@Fits.eval D0 _ _ _ hf1
 have h2:(execOp (a.put (some d1) (.func (.func G) #[] (cap.map (ev e)))).eval ⟨none,.defer ⟨.value (.tmp d1),#[],#[]⟩,ty2,pos2,af2,none⟩).run P w=.ok (.defer ⟨.fn (.func G) (cap.map (ev e)),#[]⟩) w:=by
  rw [hev1]
  simp [go_sem,execOp,resolve,Deferred.ofValue]
 unfold Oper.wp
 rw [h2,Oper.upon_defer]
 refine hK2 _ _ ?_
 refine wpList_nil ?_
 refine h _ (@Fits.mk (D1 _) _ _ _ (show (a.put (some d1) (.func (.func G) #[] (cap.map (ev e)))).tmps.size=n from @Fits.size D0 _ _ _ hf1) (fun k=>show (a.put (some d1) (.func (.func G) #[] (cap.map (ev e)))).tmps.getD k undef=_ from @Fits.get D0 _ _ _ hf1 k) ?_)
 have hd0:a.defers=[]:=@Fits.defers D0 _ _ _ hf
 show _::a.defers=_
 rw [hd0];rfl
theorem defD_of {P:Program}{f:FuncId}{fn:Func}{c:Code}{args:List Value}{w:World}{R:Value→World→Prop}(n:Nat)
  (hf:P.funcs[f]?=some fn) (hb:fn.body=some c) (hn:fn.ntmps=n) (hl:args.length≤n)
  (h:@wpX D0 P (bodyPostD P fn (endR R)) n c (argsE args 0 (fun _=>undef)) w):Ret P f args.toArray w R:=by
 refine calls_of_wp_defers hf hb (h _ (@Fits.mk D0 _ _ _ ?_ ?_ rfl))
 ·simp [hn];omega
 ·intro k
  rw [argsE_at]
  simp only [Nat.zero_le,true_and,Nat.zero_add,Nat.sub_zero]
  rw [Array.getD_eq_getD_getElem?,Array.getElem?_append]
  split
  ·rename_i h1
   simp at h1
   rw [if_pos h1];simp
  ·rename_i h1
   simp at h1
   rw [if_neg (by omega)]
   rw [Array.getElem?_replicate]
   split<;>rfl
end Dq
section
open Go Go.RowKit
def RetD (P:Program)(f:FuncId)(args:Array Value)(w:World)(R:Value→World→Prop):Prop:=CallsD P f args .returning w fun x u' w'=>u'=.returning∧∃ v,x=.returned v∧R v w'
theorem retD_of {P:Program}{f:FuncId}{fn:Func}{c:Code}{args:List Value}{w:World}{R:Value→World→Prop}(n:Nat)
  (hf:P.funcs[f]?=some fn) (hb:fn.body=some c) (hn:fn.ntmps=n) (hl:args.length≤n)
  (h:wpE P n c (bodyR P fn R) ⟨⟩ (argsE args 0 (fun _=>undef)) w):RetD P f args.toArray w R:=by
 refine callsD_of_wp hf hb (Code.wp_mono ?_ (wpR_sound c _ _ w _ ⟨?_,?_,rfl⟩ h))
 ·rintro z a w' ⟨e',hf',hq⟩;cases z with
  | normal =>
   obtain ⟨v,hr,hR⟩:=hq a.tmps hf'.get;exact ⟨hf'.defers,v,hr,v,rfl,hR⟩
  | ret =>
   obtain ⟨v,hr,hR⟩:=hq a.tmps hf'.get;exact ⟨hf'.defers,v,hr,v,rfl,hR⟩
  | _=>exact hq.elim
 ·simp [hn];omega
 ·intro k;rw [argsE_at];simp only [Nat.zero_le,true_and,Nat.zero_add,Nat.sub_zero];rw [Array.getD_eq_getD_getElem?,Array.getElem?_append];split
  ·rename_i h1;simp at h1;rw [if_pos h1];simp
  ·rename_i h1;simp at h1;rw [if_neg (by omega)];rw [Array.getElem?_replicate]
   split<;>rfl
end
namespace Dq
open Go Go.RowKit
theorem out0 {P:Program}{fn:Func}{R:Value→World→Prop}{e:Env}{w:World}{t:Tag (@outR D0 P fn R,Exit.ret)}(v:Value)(hr:∀ tmps:Array Value,(∀ k,tmps.getD k undef=e k)→(results fn tmps).run P w=.ok v w)(hR:R v w):goE (@outR D0 P fn R) .ret t e w :=
 fun tmps ht=>⟨v,hr tmps ht,v,rfl,hR⟩
theorem out1 {P:Program}{fn:Func}{R:Value→World→Prop}{G:FuncId}{cap args:Array Value}{e:Env}{w:World}{t:Tag (@outR (D1 ⟨.fn (.func G) cap,#[]⟩) P fn R,Exit.ret)}{RG:Value→World→Prop}(hi:(invoke (.fn (.func G) cap) #[]).run P w=.ok (.enter G args) w)(hG:RetD P G args w RG)
  (h:∀ v w',RG v w'→∃ u,(∀ tmps:Array Value,(∀ k,tmps.getD k undef=e k)→(results fn tmps).run P w'=.ok u w')∧R u w'):goE (@outR (D1 ⟨.fn (.func G) cap,#[]⟩) P fn R) .ret t e w:=by
 intro tmps ht
 refine leaves_cons (by intro h;cases h) hi (CallsD.mono hG ?_)
 rintro x u' w' ⟨rfl,v,rfl,hv⟩
 obtain ⟨u,hu,hR⟩:=h v w' hv
 exact ⟨u,hu tmps ht,u,rfl,hR⟩
theorem results_tmp_cell {fn:Func}{u p:Tmp}{ty:TypeId}(h:fn.results=#[.tmp u,.cell p ty])(tmps:Array Value)(P:Program)(w:World) :
  (results fn tmps).run P w=((asAddr (tmps.getD p undef)).run P w).andThen fun a w₁=>((loadVar ty a).run P w₁).andThen fun v w₂=>.ok (.tuple #[tmps.getD u undef,v]) w₂:=by
 simp only [results,h]
 simp [Sem.run_bind,Result.andThen]
end Dq
end Go.Proofs.YtaaihijkdhmcdaaGreatDoor
