/- WholeImage, part 16 of 38: contracts and lemmas of its proof. Conditions: none. -/
import Derived.Test.YtaaihijkdhmcdaaGreatDoorW03
import Derived.Defers
import Derived.Test.YtaaihijkdhmcdaaGreatDoorW01
import Derived.Test.YtaaihijkdhmcdaaGreatDoorW14
import Derived.Test.YtaaihijkdhmcdaaGreatDoorW12
import Derived.Test.YtaaihijkdhmcdaaGreatDoorW13
set_option linter.unusedVariables false
set_option linter.unusedSimpArgs false
set_option maxRecDepth 100000
namespace Go.Proofs.YtaaihijkdhmcdaaGreatDoor
namespace Dq
open Go
class Dfs where
 ds:List Deferred
end Dq
namespace Dq
variable [Dfs]
open Go
structure Fits (n:Nat) (e:Env) (a:Act):Prop where
 size:a.tmps.size=n
 get:∀ k,a.tmps.getD k undef=e k
 defers:a.defers=Dfs.ds
theorem Fits.eval {n:Nat}{e:Env}{a:Act}(h:Fits n e a):a.eval=ev e:=by
 funext x
 cases x with
 | tmp t=>exact h.get t
 | const v=>rfl
 | global g=>rfl
 | func f=>rfl
theorem Fits.put {n:Nat}{e:Env}{a:Act}(h:Fits n e a)(d:Option Tmp)(v:Value)(hd:okDst n d=true):Fits n (putE e d v) (a.put d v):=by
 cases d with
 | none=>exact h
 | some d =>
  have hd':d<a.tmps.size:=by rw [h.size];simpa [okDst] using hd
  exact ⟨by simp [Act.put,h.size],fun k=>by
   show (a.tmps.setIfInBounds d v).getD k undef=upd e d v k
   rw [getD_set _ _ _ _ hd',h.get];rfl,h.defers⟩
theorem wantE_eq {n:Nat}{e:Env}{a:Act}(h:Fits n e a)(ops:Array Oper)(o:Oper):Region.wanted o (yielded ops a.tmps)=wantE ops e o.guard:=by
 unfold Region.wanted
 cases hg:o.guard with
 | none=>rfl
 | some p =>
  obtain ⟨j,want⟩:=p
  show (yielded ops a.tmps j==some want)=_
  unfold wantE
  congr 1
  unfold yielded
  cases hd:(ops[j]?).bind (·.dst) with
  | none=>rfl
  | some d =>
   show (match a.tmps[d]? with|some (.bool b)=>some b|_=>none)=_
   have hk:=h.get d
   rw [Array.getD_eq_getD_getElem?] at hk
   show _=(match e d with | .bool b=>some b|_=>none)
   rw [← hk]
   cases ht:a.tmps[d]? with
   | none=>rfl
   | some v=>cases v<;>rfl
def lift (n:Nat)(Q:Exit→Env→World→Prop):Exit→Act→World→Prop:=fun x a w=>∃ e,Fits n e a∧Q x e w
theorem opsR_sound {P:Program}{n:Nat}{ops:Array Oper}{Q:Exit→Env→World→Prop}:∀ (l:List Oper) (e:Env) (w:World) (a:Act),Fits n e a →
  opsR P n ops (Q .normal) l e w→wpList P ops (lift n Q) l a w:=by
 intro l
 induction l with
 | nil=>intro e w a hf h;exact ⟨e,hf,h⟩
 | cons o rest ih =>
  intro e w a hf h
  obtain ⟨hd,h⟩:=h
  unfold wpList
  rw [wantE_eq hf]
  split
  ·rename_i hw
   rw [if_pos hw] at h
   refine .inl ?_
   unfold Oper.wp
   rw [hf.eval]
   generalize (execOp (ev e) o).run P w=r at h
   cases r with
   | halt x w'=>exact h.elim
   | ok x w' =>
    cases x with
    | value v=>exact ih _ _ _ (hf.put _ v hd) h
    | skip=>exact ih _ _ _ (hf.put _ undef hd) h
    | enter f args =>
     refine Calls.mono h ?_
     rintro x w2 ⟨v,rfl,hv⟩
     exact ih _ _ _ (hf.put _ v hd) hv
    | _=>exact h.elim
  ·rename_i hw
   rw [if_neg hw] at h
   exact ih _ _ _ (hf.put _ undef hd) h
def wpR (P:Program)(n:Nat):Code→(Exit→Env→World→Prop)→Env→World→Prop
 | .skip,Q,e,w=>Q .normal e w
 | .region _ ops false,Q,e,w=>opsR P n ops (Q .normal) ops.toList e w
 | .seq x y,Q,e,w=>wpR P n x (seqR (wpR P n y Q) Q) e w
 | .cond c x y,Q,e,w=>condE (wpR P n x Q e w) (wpR P n y Q e w) ⟨⟩ (ev e c)
 | .block id x,Q,e,w=>wpR P n x (blockR id Q) e w
 | .exit id,Q,e,w=>Q (.exit id) e w
 | .ret,Q,e,w=>Q .ret e w
 | c,Q,e,w=>∀ a,Fits n e a→Code.wp P c (lift n Q) a w
def wpE (P:Program)(n:Nat)(c:Code)(Q:Exit→Env→World→Prop)(_:Tag (P,n,c,Q))(e:Env)(w:World):Prop:=wpR P n c Q e w
section
variable (P:Program) (n:Nat) (Q:Exit→Env→World→Prop) (K:Env→World→Prop) (e:Env) (w:World)
theorem wpE_skip (t:Tag (P,n,Code.skip,Q)):wpE P n .skip Q t e w=goE Q .normal ⟨⟩ e w:=by simp only [wpE,wpR,goE]
theorem wpE_region (id:Nat)(l:List Oper)(t:Tag (P,n,Code.region id l.toArray false,Q)):wpE P n (.region id l.toArray false) Q t e w=opsE P n l.toArray (Q .normal) l ⟨⟩ e w:=by simp only [wpE,wpR,opsE]
theorem wpE_seq (x y:Code)(t:Tag (P,n,Code.seq x y,Q)):wpE P n (.seq x y) Q t e w=wpE P n x (seqR (wpR P n y Q) Q) ⟨⟩ e w:=by simp only [wpE,wpR]
theorem wpE_cond (c:Operand)(x y:Code)(t:Tag (P,n,Code.cond c x y,Q)):wpE P n (.cond c x y) Q t e w=condE (wpE P n x Q ⟨⟩ e w) (wpE P n y Q ⟨⟩ e w) ⟨⟩ (ev e c):=by simp only [wpE,wpR]
theorem wpE_block (id:Nat)(x:Code)(t:Tag (P,n,Code.block id x,Q)):wpE P n (.block id x) Q t e w=wpE P n x (blockR id Q) ⟨⟩ e w:=by simp only [wpE,wpR]
theorem wpE_exit (id:Nat)(t:Tag (P,n,Code.exit id,Q)):wpE P n (.exit id) Q t e w=goE Q (.exit id) ⟨⟩ e w:=by simp only [wpE,wpR,goE]
theorem wpE_ret (t:Tag (P,n,Code.ret,Q)):wpE P n .ret Q t e w=goE Q .ret ⟨⟩ e w:=by simp only [wpE,wpR,goE]
theorem goE_seq (y:Code)(t:Tag (seqR (wpR P n y Q) Q,Exit.normal)):goE (seqR (wpR P n y Q) Q) .normal t e w=wpE P n y Q ⟨⟩ e w:=nr rfl
end
theorem wpR_sound {P:Program}{n:Nat}:∀ (c:Code) (Q:Exit→Env→World→Prop) (e:Env) (w:World) (a:Act),Fits n e a→wpR P n c Q e w→Code.wp P c (lift n Q) a w:=by
 intro c
 induction c with
 | skip=>intro Q e w a hf h;simp only [wpR] at h;exact wp_skip ⟨e,hf,h⟩
 | region id ops draw =>
  intro Q e w a hf h
  cases draw with
  | true=>simp only [wpR] at h;exact h a hf
  | false =>
   obtain ⟨l⟩:=ops
   simp only [wpR] at h
   exact wp_region_lit (opsR_sound l e w a hf h)
 | seq x y ihx ihy =>
  intro Q e w a hf h
  simp only [wpR] at h
  refine wp_seq (Code.wp_mono ?_ (ihx _ e w a hf h))
  rintro z a' w' ⟨e',hf',hq⟩
  cases z with
  | normal=>exact ihy Q e' w' a' hf' hq
  | _=>exact ⟨e',hf',hq⟩
 | cond c x y ihx ihy =>
  intro Q e w a hf h
  simp only [wpR] at h
  cases hv:ev e c with
  | bool b =>
   rw [hv] at h
   have hc:a.eval c=.bool b:=by rw [hf.eval];exact hv
   cases b with
   | true=>exact wp_cond hc (ihx Q e w a hf h)
   | false=>exact wp_cond hc (ihy Q e w a hf h)
  | _=>rw [hv] at h;exact h.elim
 | block id x ih =>
  intro Q e w a hf h
  simp only [wpR] at h
  refine wp_block (Code.wp_mono ?_ (ih _ e w a hf h))
  rintro z a' w' ⟨e',hf',hq⟩
  cases z with
  | exit i =>
   show if i=id then _ else _
   have hq':if i=id then Q .normal e' w' else Q (.exit i) e' w':=hq
   by_cases hi:i=id
   ·rw [if_pos hi] at hq' ⊢;exact ⟨e',hf',hq'⟩
   ·rw [if_neg hi] at hq' ⊢;exact ⟨e',hf',hq'⟩
  | _=>exact ⟨e',hf',hq⟩
 | exit id=>intro Q e w a hf h;simp only [wpR] at h;exact wp_exit ⟨e,hf,h⟩
 | ret=>intro Q e w a hf h;simp only [wpR] at h;exact wp_ret ⟨e,hf,h⟩
 | _=>intro Q e w a hf h;simp only [wpR] at h;exact h a hf
def roundsR (P:Program)(n:Nat)(c:Code)(Q:Exit→Env→World→Prop):Nat→Env→World→Prop
 | 0,_,_=>False
 | k+1,e,w=>wpR P n c (seqR (roundsR P n c Q k) Q) e w
def roundsE (P:Program)(n:Nat)(c:Code)(Q:Exit→Env→World→Prop)(k:Nat)(_:Tag (P,n,c,Q))(e:Env)(w:World):Prop:=roundsR P n c Q k e w
theorem roundsE_succ (P:Program)(n:Nat)(c:Code)(Q:Exit→Env→World→Prop)(k:Nat)(t:Tag (P,n,c,Q))(e:Env)(w:World):roundsE P n c Q (k+1) t e w=wpE P n c (seqR (roundsR P n c Q k) Q) ⟨⟩ e w:=nr rfl
attribute [go_sem] goE_seq
attribute [go_sem] wpE_skip wpE_region wpE_seq wpE_cond wpE_ret
end Dq
namespace Dq
variable [Dfs]
open Go
theorem stillR_sound {P:Program}{n:Nat}{ops:Array Oper}{w:World}{N:Env→Prop}{N':Act→Prop}(hN:∀ e a,Fits n e a→N e→N' a):∀ (l:List Oper) (e:Env) (a:Act),Fits n e a →
  stillR P n ops w N l e→wpStill P ops w N' l a:=by
 intro l
 induction l with
 | nil=>intro e a hf h;exact hN e a hf h
 | cons o rest ih =>
  intro e a hf h
  obtain ⟨hd,h⟩:=h
  unfold wpStill
  rw [wantE_eq hf]
  split
  ·rename_i hw
   rw [if_pos hw] at h
   unfold Oper.still
   rw [hf.eval]
   generalize (execOp (ev e) o).run P w=r at h
   cases r with
   | halt x w'=>exact h.elim
   | ok x w' =>
    cases x with
    | value v=>exact ⟨h.1,ih _ _ (hf.put _ v hd) h.2⟩
    | skip=>exact ⟨h.1,ih _ _ (hf.put _ undef hd) h.2⟩
    | enter f args =>
     obtain ⟨h1,v,h2,h3⟩:=h
     refine ⟨h1,v,Calls.mono h2 ?_,ih _ _ (hf.put _ v hd) h3⟩
     rintro x w2 ⟨u,rfl,rfl,rfl⟩
     exact ⟨rfl,rfl⟩
    | _=>exact h.elim
  ·rename_i hw
   rw [if_neg hw] at h
   exact ih _ _ (hf.put _ undef hd) h
theorem drawE_tail {P:Program}{n id:Nat}{l l1 l2:List Oper}{Q:Exit→Env→World→Prop}{t:Tag (P,n,Code.region id l.toArray true,Q)}{e:Env}{w:World}(k:Nat)(hm:P.follows .mixedOrders=true)(hB:Region.lexTailB .any l.toArray k=true)
  (h1:l.take k=l1) (h2:l.drop k=l2)
  (h:stillE P n l.toArray w.drew (fun e'=>opsE P n l.toArray (Q .normal) l2 ⟨⟩ e' w.drew) l1 ⟨⟩ e):wpE P n (.region id l.toArray true) Q t e w:=by
 subst h1;subst h2
 simp only [wpE,wpR]
 intro a hf
 exact wp_region_still_tail k hm hB (stillR_sound (fun e a hf hq=>opsR_sound _ e _ a hf hq) _ e a hf h)
end Dq
namespace Dq
open Go Go.RowKit
abbrev D0:Dfs:=⟨[]⟩
abbrev D1 (d:Deferred):Dfs:=⟨[d]⟩
def endR (R:Value→World→Prop):Ending→World→Prop:=fun x w=>∃ v,x=.returned v∧R v w
def wpX [Dfs](P:Program)(QD:Exit→Act→World→Prop)(n:Nat)(c:Code)(e:Env)(w:World):Prop:=∀ a,Fits n e a→c.wp P QD a w
def outR [Dfs](P:Program)(fn:Func)(R:Value→World→Prop):Exit→Env→World→Prop
 | .ret,e,w=>∀ tmps:Array Value,(∀ k,tmps.getD k undef=e k)→Leaves P fn tmps (endR R) Dfs.ds .returning w
 | _,_,_=>False
theorem rawSeq [Dfs]{P:Program}{fn:Func}{R:Value→World→Prop}{n:Nat}{x y:Code}{e:Env}{w:World}(h:wpE P n x (seqR (fun e w=>wpX P (bodyPostD P fn (endR R)) n y e w) (outR P fn R)) ⟨⟩ e w) :
  wpX P (bodyPostD P fn (endR R)) n (.seq x y) e w:=by
 intro a hf
 refine wp_seq (Code.wp_mono ?_ (wpR_sound x _ e w a hf h))
 rintro z a' w' ⟨e',hf',hq⟩
 cases z with
 | normal=>exact hq a' hf'
 | ret =>
  show Leaves P fn a'.tmps (endR R) a'.defers .returning w'
  rw [hf'.defers]
  exact hq a'.tmps hf'.get
 | _=>exact hq.elim
theorem rawAll [Dfs]{P:Program}{fn:Func}{R:Value→World→Prop}{n:Nat}{x:Code}{e:Env}{w:World}(h:wpE P n x (outR P fn R) ⟨⟩ e w):wpX P (bodyPostD P fn (endR R)) n x e w:=by
 intro a hf
 refine Code.wp_mono ?_ (wpR_sound x _ e w a hf h)
 rintro z a' w' ⟨e',hf',hq⟩
 cases z with
 | ret =>
  show Leaves P fn a'.tmps (endR R) a'.defers .returning w'
  rw [hf'.defers]
  exact hq a'.tmps hf'.get
 | _=>exact hq.elim
theorem goE_raw {K:Env→World→Prop}{Q:Exit→Env→World→Prop}{t:Tag (seqR K Q,Exit.normal)}{e:Env}{w:World}(h:K e w):goE (seqR K Q) .normal t e w:=h
theorem rawDefer {P:Program}{fn:Func}{R:Value→World→Prop}{n id d1:Nat}{G:FuncId}{first:Array Operand}{cap:Array Operand}{capv:Array Value}{ty1 ty2:TypeId}{pos1 pos2:String}{af1 af2:Array Edge}{y:Code}{e:Env}{w:World}(hd:d1<n)
  (h:@wpX (D1 ⟨.fn (.func G) capv,#[]⟩) P (bodyPostD P fn (endR R)) n y (upd e d1 (.func (.func G) #[] capv)) w) (hfirst:first=#[]) (hcap:cap.map (ev e)=capv) :
  @wpX D0 P (bodyPostD P fn (endR R)) n (.seq (.region id [⟨some d1,.makeFunc (.func G) first cap,ty1,pos1,af1,none⟩,⟨none,.defer ⟨.value (.tmp d1),#[],#[]⟩,ty2,pos2,af2,none⟩].toArray false) y) e w:=by
 subst hfirst
 subst hcap
 intro a hf
 refine wp_seq (wp_region_lit ?_)
 have hev:a.eval=ev e:=@Fits.eval D0 n e a hf
 refine wpList_plain rfl fun K hK=>?_
 have h1:(execOp a.eval ⟨some d1,.makeFunc (.func G) #[] cap,ty1,pos1,af1,none⟩).run P w=.ok (.value (.func (.func G) #[] (cap.map (ev e)))) w:=by
  rw [hev];simp [go_sem]
 unfold Oper.wp
 rw [h1,Oper.upon_value]
 have hf1:=@Fits.put D0 n e a hf (some d1) (.func (.func G) #[] (cap.map (ev e))) (by simpa [okDst] using hd)
 refine hK _ _ (wpList_plain rfl fun K2 hK2=>?_)
 have hev1:=@Fits.eval D0 _ _ _ hf1
 have h2:(execOp (a.put (some d1) (.func (.func G) #[] (cap.map (ev e)))).eval ⟨none,.defer ⟨.value (.tmp d1),#[],#[]⟩,ty2,pos2,af2,none⟩).run P w=.ok (.defer ⟨.fn (.func G) (cap.map (ev e)),#[]⟩) w:=by
  rw [hev1]
  simp [go_sem,execOp,resolve,Deferred.ofValue]
 unfold Oper.wp
 rw [h2,Oper.upon_defer]
 refine hK2 _ _ ?_
 refine wpList_nil ?_
 refine h _ (@Fits.mk (D1 _) _ _ _ (show (a.put (some d1) (.func (.func G) #[] (cap.map (ev e)))).tmps.size=n from @Fits.size D0 _ _ _ hf1) (fun k=>show (a.put (some d1) (.func (.func G) #[] (cap.map (ev e)))).tmps.getD k undef=_ from @Fits.get D0 _ _ _ hf1 k) ?_)
 have hd0:a.defers=[]:=@Fits.defers D0 _ _ _ hf
 show _::a.defers=_
 rw [hd0];rfl
theorem defD_of {P:Program}{f:FuncId}{fn:Func}{c:Code}{args:List Value}{w:World}{R:Value→World→Prop}(n:Nat)
  (hf:P.funcs[f]?=some fn) (hb:fn.body=some c) (hn:fn.ntmps=n) (hl:args.length≤n)
  (h:@wpX D0 P (bodyPostD P fn (endR R)) n c (argsE args 0 (fun _=>undef)) w):Ret P f args.toArray w R:=by
 refine calls_of_wp_defers hf hb (h _ (@Fits.mk D0 _ _ _ ?_ ?_ rfl))
 ·simp [hn];omega
 ·intro k
  rw [argsE_at]
  simp only [Nat.zero_le,true_and,Nat.zero_add,Nat.sub_zero]
  rw [Array.getD_eq_getD_getElem?,Array.getElem?_append]
  split
  ·rename_i h1
   simp at h1
   rw [if_pos h1];simp
  ·rename_i h1
   simp at h1
   rw [if_neg (by omega)]
   rw [Array.getElem?_replicate]
   split<;>rfl
end Dq
section
open Go Go.RowKit
def RetD (P:Program)(f:FuncId)(args:Array Value)(w:World)(R:Value→World→Prop):Prop:=CallsD P f args .returning w fun x u' w'=>u'=.returning∧∃ v,x=.returned v∧R v w'
theorem retD_of {P:Program}{f:FuncId}{fn:Func}{c:Code}{args:List Value}{w:World}{R:Value→World→Prop}(n:Nat)
  (hf:P.funcs[f]?=some fn) (hb:fn.body=some c) (hn:fn.ntmps=n) (hl:args.length≤n)
  (h:wpE P n c (bodyR P fn R) ⟨⟩ (argsE args 0 (fun _=>undef)) w):RetD P f args.toArray w R:=by
 refine callsD_of_wp hf hb (Code.wp_mono ?_ (wpR_sound c _ _ w _ ⟨?_,?_,rfl⟩ h))
 ·rintro z a w' ⟨e',hf',hq⟩;cases z with
  | normal =>
   obtain ⟨v,hr,hR⟩:=hq a.tmps hf'.get;exact ⟨hf'.defers,v,hr,v,rfl,hR⟩
  | ret =>
   obtain ⟨v,hr,hR⟩:=hq a.tmps hf'.get;exact ⟨hf'.defers,v,hr,v,rfl,hR⟩
  | _=>exact hq.elim
 ·simp [hn];omega
 ·intro k;rw [argsE_at];simp only [Nat.zero_le,true_and,Nat.zero_add,Nat.sub_zero];rw [Array.getD_eq_getD_getElem?,Array.getElem?_append];split
  ·rename_i h1;simp at h1;rw [if_pos h1];simp
  ·rename_i h1;simp at h1;rw [if_neg (by omega)];rw [Array.getElem?_replicate]
   split<;>rfl
end
namespace Dq
open Go Go.RowKit
theorem out0 {P:Program}{fn:Func}{R:Value→World→Prop}{e:Env}{w:World}{t:Tag (@outR D0 P fn R,Exit.ret)}(v:Value)(hr:∀ tmps:Array Value,(∀ k,tmps.getD k undef=e k)→(results fn tmps).run P w=.ok v w)(hR:R v w):goE (@outR D0 P fn R) .ret t e w :=
 fun tmps ht=>⟨v,hr tmps ht,v,rfl,hR⟩
theorem out1 {P:Program}{fn:Func}{R:Value→World→Prop}{G:FuncId}{cap args:Array Value}{e:Env}{w:World}{t:Tag (@outR (D1 ⟨.fn (.func G) cap,#[]⟩) P fn R,Exit.ret)}{RG:Value→World→Prop}(hi:(invoke (.fn (.func G) cap) #[]).run P w=.ok (.enter G args) w)(hG:RetD P G args w RG)
  (h:∀ v w',RG v w'→∃ u,(∀ tmps:Array Value,(∀ k,tmps.getD k undef=e k)→(results fn tmps).run P w'=.ok u w')∧R u w'):goE (@outR (D1 ⟨.fn (.func G) cap,#[]⟩) P fn R) .ret t e w:=by
 intro tmps ht
 refine leaves_cons (by intro h;cases h) hi (CallsD.mono hG ?_)
 rintro x u' w' ⟨rfl,v,rfl,hv⟩
 obtain ⟨u,hu,hR⟩:=h v w' hv
 exact ⟨u,hu tmps ht,u,rfl,hR⟩
theorem results_tmp_cell {fn:Func}{u p:Tmp}{ty:TypeId}(h:fn.results=#[.tmp u,.cell p ty])(tmps:Array Value)(P:Program)(w:World) :
  (results fn tmps).run P w=((asAddr (tmps.getD p undef)).run P w).andThen fun a w₁=>((loadVar ty a).run P w₁).andThen fun v w₂=>.ok (.tuple #[tmps.getD u undef,v]) w₂:=by
 simp only [results,h]
 simp [Sem.run_bind,Result.andThen]
end Dq
section
open Go Go.RowKit
def linkW (off:Int)(ws:List (BitVec 64)):LinkV:=⟨off,ws.getD 1 0#64,ws.getD 2 0#64,goneM ws,textM ws (sizeM ws)⟩
def fetch (s:HM.Shape)(T H:List (BitVec 64))(D:NM.Dv)(x:BitVec 64):Option LinkV :=
 if classV s T H x.toInt=1∧okM (D.get x.toInt 8).1=true then some (linkW x.toInt (D.get x.toInt 8).1) else none
def Seg (f:BitVec 64→Option LinkV):BitVec 64→List LinkV→BitVec 64→Prop
 | x,[],y=>x=y
 | x,k::l,y=>x≠0#64∧f x=some k∧Seg f k.nxt l y
theorem Seg.snoc {f:BitVec 64→Option LinkV}{k:LinkV}{y:BitVec 64}(h0:y≠0#64)(hk:f y=some k):∀ {l:List LinkV} {x:BitVec 64},Seg f x l y→Seg f x (l++[k]) k.nxt
 | [],x,h=>by
  have h:x=y:=h;subst h;exact ⟨h0,hk,rfl⟩
 | z::l,x,h=>⟨h.1,h.2.1,Seg.snoc h0 hk h.2.2⟩
theorem Seg.ext {f:BitVec 64→Option LinkV}{y:BitVec 64}:∀ {l m:List LinkV} {x:BitVec 64},Seg f x l y→Seg f x m 0#64→∃ r,m=l++r∧Seg f y r 0#64
 | [],m,x,h,h2=>by
  have h:x=y:=h;subst h;exact ⟨m,rfl,h2⟩
 | k::l,[],x,h,h2=>absurd (show x=0#64 from h2) h.1
 | k::l,k2::m,x,h,h2=>by
  have e:k=k2:=Option.some.inj (h.2.1.symm.trans h2.2.1);subst e;obtain ⟨r,hr,hs⟩:=Seg.ext h.2.2 h2.2.2;exact ⟨r,by rw [hr];rfl,hs⟩
theorem Seg.uniq {f:BitVec 64→Option LinkV}{l m:List LinkV}{x:BitVec 64}(h:Seg f x l 0#64)(h2:Seg f x m 0#64):l=m:=by
 obtain ⟨r,hr,hs⟩:=Seg.ext h h2;cases r with
 | nil=>rw [hr,List.append_nil]
 | cons k r=>exact absurd rfl hs.1
theorem Seg.next {f:BitVec 64→Option LinkV}{l m:List LinkV}{x y:BitVec 64}(h:Seg f x l y)(h2:Seg f x m 0#64)(h0:y≠0#64):∃ k r,f y=some k∧m=l++k::r:=by
 obtain ⟨r,hr,hs⟩:=Seg.ext h h2;cases r with
 | nil=>exact absurd hs h0
 | cons k r=>exact ⟨k,r,hs.2.1,hr⟩
theorem fall_snoc {l:List LinkV}{k:LinkV}(h:FallL l)(hk:∀ z,l.getLast?=some z→k.stamp.toNat<z.stamp.toNat):FallL (l++[k]):=by
 rw [fall_iff] at h ⊢;intro i hi;simp only [List.length_append,List.length_singleton] at hi;by_cases e:i+1<l.length
 ·rw [List.getElem_append_left e,List.getElem_append_left (by omega)];exact h i e
 ·have e1:i+1=l.length:=by omega
  have e2:(l++[k])[i+1]'(by simp;omega)=k:=by simp [e1]
  rw [e2,List.getElem_append_left (by omega)];apply hk;have e3:l.length-1=i:=by omega
  rw [List.getLast?_eq_getElem?,e3,List.getElem?_eq_getElem (by omega)]
theorem fall_not {l r:List LinkV}{k z:LinkV}(hz:l.getLast?=some z)(h:z.stamp.toNat≤k.stamp.toNat):¬ FallL (l++k::r):=by
 intro hf;rw [fall_iff] at hf;have hl:0<l.length:=by
  cases l with
  | nil=>cases hz
  | cons _ _=>simp
 have h1:=hf (l.length-1) (by simp;omega);have e1:l.length-1+1=l.length:=by omega
 have e2:(l++k::r)[l.length-1+1]'(by simp;omega)=k:=by simp [e1]
 rw [e2,List.getElem_append_left (by omega)] at h1;rw [List.getLast?_eq_getElem?,List.getElem?_eq_getElem (by omega)] at hz;have:=Option.some.inj hz;rw [this] at h1;omega
section
set_option maxHeartbeats 4000000
variable {w w':World} {b p:Nat} {s:HM.Shape} {T H:List (BitVec 64)} {tb tc hb hc:Nat} {F F' G:Nat→Prop} {D D':NM.Dv}
theorem chNone_calls (w0:World)(h:DevB w0 p F D)(b:Nat):Ret Tryz.prog 122 #[.pointer (some ⟨p,0,none⟩),.pointer (some ⟨b,0,none⟩)] w0 fun v w'=>v=.bool false∧w'=w0:=by
 have hp:=h.pos;have hs:((D.size:Int)==0)=false:=by rw [beq_eq_false_iff_ne];unfold NM.Dv.size;omega
 refine ret_of (args:=[_,_]) _ Tryz.func122 rfl Tryz.ntmps122 (by simp) ?_;simp -implicitDefEqProofs [go_sem];refine callE_of (sizeB w0 h) ?_;rintro v w1 ⟨rfl,rfl⟩;simp -implicitDefEqProofs [go_sem,hs];refine body_tmp 4 rfl ?_;simp -implicitDefEqProofs [go_sem]
def ListP (w0:World)(f:BitVec 64→Option LinkV)(first:BitVec 64)(v:Value)(w':World):Prop :=
 (∃ l a c,Seg f first l 0#64∧FallL l∧v=.tuple #[.slice a l.length c,.int .i64 0]∧LksIn w' a l c∧(∀ y,a=some y→w0.heap.size≤y.block∧y.block<w'.heap.size)) ∨
  ((∀ l,Seg f first l 0#64→¬ FallL l)∧v=.tuple #[.slice none 0 0,.int .i64 5])
theorem wrap_uv (y:BitVec 64):IntKind.i64.wrap (uv y)=y.toInt:=by
 have hlt:=y.isLt;have e:((y.toNat:Int)%18446744073709551616)=y.toNat:=Int.emod_eq_of_lt (by omega) (by omega);rw [BitVec.toInt_eq_toNat_cond];have hw:IntKind.i64.wrap (uv y)=if (9223372036854775808:Int)≤(y.toNat:Int)%18446744073709551616 then (y.toNat:Int)%18446744073709551616-18446744073709551616 else (y.toNat:Int)%18446744073709551616:=by
  unfold IntKind.wrap uv;rw [show IntKind.i64.signed=true from rfl,show IntKind.i64.bits=64 from rfl];simp
 rw [hw,e];by_cases h:2*y.toNat<2 ^ 64
 ·rw [if_pos h,if_neg (by omega)]
 ·rw [if_neg h,if_pos (by omega)];rfl
theorem decM_rc (ws:List (BitVec 64))(off:Int):∃ K:LinkV,decM ws=.agg K.rc∧K.off=off∧(okM ws=true→K=linkW off ws):=by
 unfold decM;by_cases h:okM ws=true
 ·exact ⟨linkW off ws,by rw [if_pos h];rfl,rfl,fun _=>rfl⟩
 ·exact ⟨⟨off,0#64,0#64,false,⟨#[]⟩⟩,by rw [if_neg h];rfl,rfl,fun h2=>absurd h2 h⟩
theorem toInt_I64 (y:BitVec 64):I64 y.toInt:=by
 have h1:=@BitVec.le_toInt 64 y;have h2:=@BitVec.toInt_lt 64 y;unfold I64;omega
theorem chList_calls (first:BitVec 64)(w0:World)(h:PD w0 b p s T H tb tc hb hc F D)(hn:T.length≤64)(hd:0≤s.data∧s.data≤1000000)(hget:∀ off,classV s T H off=1→(D.get off 8).2=0)(N:Nat)
  (hN:∀ acc y,Seg (fetch s T H D) first acc y→FallL acc→acc.length≤N) (hN2:N≤100000) :
  Ret Tryz.prog 86 #[.pointer (some ⟨p,0,none⟩),.pointer (some ⟨b,0,none⟩),.int .u64 (uv first)] w0 fun v w'=>ListP w0 (fetch s T H D) first v w'∧Below w0.heap.size w0 w':=by
 have bel0:=Below.refl w0.heap.size w0;refine ret_of (args:=[_,_,_]) _ Tryz.func86 rfl Tryz.ntmps86 (by simp) ?_;simp -implicitDefEqProofs [go_sem];refine callE_of (chNone_calls w0 h.dev b) ?_;rintro v w0' ⟨rfl,rfl⟩;simp -implicitDefEqProofs [go_sem];refine wpE_loop (fun e' w'=>∃ (acc:List LinkV) (y:BitVec 64) (a:Option Addr) (c:Nat),Seg (fetch s T H D) first acc y∧FallL acc∧e' 0=.pointer (some ⟨p,0,none⟩)∧e' 1=.pointer (some ⟨b,0,none⟩)∧e' 8=.slice a acc.length c∧e' 9=.int .u64 (uv y) ∧
  w'.ownsRow w0'.heap.size 186 5 (.slice a acc.length c) acc.length (flat acc)∧Below w0'.heap.size w0' w') (fun e' _=>N-(match e' 8 with | .slice _ n _=>n|_=>0)) ?_ ?_
 ·refine ⟨[],first,none,0,rfl,trivial,?_⟩;simp -implicitDefEqProofs [go_sem];exact ⟨World.ownsRow_nil _ _ _ _,bel0⟩
 ·rintro e' w1 ⟨acc,y,a,c,hseg,hfall,g0,g1,g8,g9,hown,bel1⟩;have hlen:=hN acc y hseg hfall;by_cases hy:y=0#64
  ·subst hy;simp -implicitDefEqProofs [go_sem,g0,g1,g8,g9];refine body_tmp2 6 7 rfl ?_;simp -implicitDefEqProofs [go_sem];exact ⟨.inl ⟨acc,a,c,hseg,hfall,rfl,owns_lks rfl hown,owns_new5 hown⟩,bel1⟩
  ·have hy':(y != 0#64)=true:=bne_iff_ne.2 hy;obtain ⟨off,hoff⟩:∃ off,off=y.toInt:=⟨_,rfl⟩;have hwr:IntKind.i64.wrap (uv y)=off:=by rw [hoff];exact wrap_uv y
   have hoI:I64 off:=by rw [hoff];exact toInt_I64 y
   simp -implicitDefEqProofs [go_sem,g0,g1,g8,g9,hy',hwr];refine callE_of (poolClass_calls off w1 (h.next bel1).pool hn hoI hd) ?_;rintro v w2 ⟨rfl,b2⟩;have bel2:=btr bel1 b2;replace hown:=ownsRow_next hown b2;by_cases hcl:classV s T H off=1
   ·simp -implicitDefEqProofs [go_sem,g0,g1,g8,g9,hcl];have hgo:=hget off hcl;obtain ⟨ws,hws⟩:∃ ws,ws=(D.get off 8).1:=⟨_,rfl⟩;have hgc:=get_calls' off 8 w2 (h.next bel2).dev hoI (by unfold I64;omega);rw [hgo,← hws] at hgc;refine callE_of hgc ?_;rintro v w3 ⟨b3,a3,c3,rfl,hin3,hnew3⟩;have bel3:=btr bel2 b3;replace hown:=ownsRow_next hown b3;simp -implicitDefEqProofs [go_sem,g0,g1,g8,g9];refine callE_of (decode_calls a3 ws _ c3 w3 rfl hin3) ?_;rintro v w4 ⟨rfl,b4⟩;have bel4:=btr bel3 b4
    replace hown:=ownsRow_next hown b4;obtain ⟨K,hK,hKo,hKw⟩:=decM_rc ws off;have hst:=stNew (P:=Tryz.prog) (t:=184) (cs:=K.rc) (C0:=#[.int .u64 0,.int .u64 0,.bool false,.string ⟨#[]⟩]) recI_ours rfl K.rc_one;rw [hK];simp -implicitDefEqProofs [go_sem,g0,g1,g8,g9,↓hst];generalize hw5:World.alloc w4 _=w5 at *;obtain ⟨hB5,b5,sz5,bel5⟩:=newF hw5 bel4;replace hown:=hown.alloc (.cells K.rc 184);rw [hw5] at hown;have hL5:=owns_lks (l:=acc) rfl hown;refine drawE_still mixed (by decide +kernel) ?_
    have bel6:=bel5.drew;have hown6:=ownsRow_next hown (Below.refl _ _).drew;have hB6:=hB5.next (Below.refl _ _).drew
    replace hL5:=hL5.drew;generalize World.drew w5=w6 at *;have hfe:∀ k,fetch s T H D y=some k→okM ws=true∧k=K:=fun k hk=>by
     unfold fetch at hk;rw [← hoff,← hws] at hk;split at hk
     ·rename_i h;exact ⟨h.2,by rw [hKw h.2];exact (Option.some.inj hk).symm⟩
     ·cases hk
    have hwl:=IntWalk.i64_in ((acc.length:Int)+1) (by omega);have hgo2:okM ws=true→fetch s T H D y=some K:=fun h=>by
     unfold fetch;rw [← hoff,← hws,if_pos ⟨hcl,h⟩,hKw h]
    cases hok:okM ws
    ·simp -implicitDefEqProofs [go_sem,g0,g1,g8,g9];unfold endE;simp -implicitDefEqProofs [go_sem,g0,g1,g8,g9];refine body_tmp2 6 7 rfl ?_;simp -implicitDefEqProofs [go_sem];refine ⟨.inr ⟨fun l hl=>?_,rfl⟩,bel6⟩;obtain ⟨k,r,hk,_⟩:=hseg.next hl hy
     rw [(hfe k hk).1] at hok;cases hok
    ·have ldK:=ldAll (P:=Tryz.prog) hB6 Tryz.underlying184 rfl recI_ours (n:=4) K.rc_size;obtain ⟨g,c2,w7,hr7,hown7,bel7,hsz7,hgr7⟩:=push_lk (t:=180) (e:=186) Tryz.underlying180 lkI_ours w0'.heap.size hown6 (by omega) bel6.size bel6 K;simp only [LinkV.cs,hKo] at hr7;have hB7:w7.cell? ⟨w4.heap.size,1,none⟩=some (.int .u64 (uv K.nxt)):=by
      have hne:=not_row (hB6.alloc (.cells K.cs 186)) (e:=186) (by decide) (hown6.alloc (.cells K.cs 186));exact ((hB6.alloc (.cells K.cs 186)).grown hgr7 hne).cell 1
     have hend:(∀ z,acc.getLast?=some z→K.stamp.toNat<z.stamp.toNat)→Seg (fetch s T H D) first (acc++[K]) K.nxt∧FallL (acc++[K]):=fun h=>⟨hseg.snoc hy (hgo2 hok),fall_snoc hfall h⟩
     rcases List.eq_nil_or_concat acc with hnil|⟨pre,z,hacc⟩
     ·have hlen0:acc.length=0:=by rw [hnil];rfl
      simp -implicitDefEqProofs [go_sem,g0,g1,g8,g9,hlen0];unfold endE;simp -implicitDefEqProofs [go_sem,g0,g1,g8,g9,↓ldK,LinkV.rc,hr7,hB7];obtain ⟨e1,e2⟩:=hend (fun z hz=>by rw [hnil] at hz;cases hz);refine goE_round ⟨acc++[K],K.nxt,some ⟨g,0,none⟩,c2,e1,e2,?_⟩ ?_
      ·have el:(acc++[K]).length=acc.length+1:=by simp
       rw [el];simp -implicitDefEqProofs [go_sem,g0,g1];exact ⟨hown7,bel7⟩
      ·have:=hN _ _ e1 e2;simp only [List.length_append,List.length_singleton] at this;simp -implicitDefEqProofs [go_sem,g8];exact Nat.sub_lt_sub_left (Nat.lt_of_lt_of_le (Nat.lt_succ_self _) this) (Nat.lt_succ_self _)
     ·have hlen1:acc.length=pre.length+1:=by rw [hacc];simp
      have hpos:0<acc.length:=by omega
      have hpos':(0:Int)<acc.length:=by omega
      have hidx:(acc.length:Int)-1=(pre.length:Int):=by omega
      have hwi:=IntWalk.i64_in (pre.length:Int) (by omega);have hplt:pre.length<acc.length:=by omega
      obtain ⟨b5,o5,rfl,-,cz,-⟩:=hL5.cells (i:=pre.length) hplt;have hz:acc[pre.length]=z:=by simp [hacc]
      rw [hz] at cz;simp -implicitDefEqProofs [go_sem,g0,g1,g8,g9,hB6.cell,LinkV.rc,hpos,hpos',hidx,hwi,hplt,cz];unfold endE;by_cases hge:z.stamp≤K.stamp
      ·simp -implicitDefEqProofs [go_sem,hge];refine body_tmp2 6 7 rfl ?_;simp -implicitDefEqProofs [go_sem];refine ⟨.inr ⟨fun l hl hf=>?_,rfl⟩,bel6⟩;obtain ⟨k,r,hk,rfl⟩:=hseg.next hl hy
       obtain rfl:=(hfe k hk).2;refine fall_not (z:=z) (l:=acc) (r:=r) (by rw [hacc];simp) ?_ hf;rw [BitVec.le_def] at hge;exact hge
      ·simp -implicitDefEqProofs [go_sem,hge,g0,g1,g8,g9,↓ldK,LinkV.rc,hr7,hB7];obtain ⟨e1,e2⟩:=hend (fun z' hz'=>by
        rw [hacc] at hz';simp at hz';subst hz';rw [BitVec.le_def] at hge;omega)
       refine goE_round ⟨acc++[K],K.nxt,some ⟨g,0,none⟩,c2,e1,e2,?_⟩ ?_
       ·have el:(acc++[K]).length=acc.length+1:=by simp
        rw [el];simp -implicitDefEqProofs [go_sem,g0,g1];exact ⟨hown7,bel7⟩
       ·have:=hN _ _ e1 e2;simp only [List.length_append,List.length_singleton] at this;simp -implicitDefEqProofs [go_sem,g8];exact Nat.sub_lt_sub_left (Nat.lt_of_lt_of_le (Nat.lt_succ_self _) this) (Nat.lt_succ_self _)
   ·have hcl':(classV s T H off != 1)=true:=bne_iff_ne.2 hcl;simp -implicitDefEqProofs [go_sem,g0,g1,g8,g9,hcl'];refine body_tmp2 6 7 rfl ?_;simp -implicitDefEqProofs [go_sem];refine ⟨.inr ⟨fun l hl=>?_,rfl⟩,bel2⟩;obtain ⟨k,r,hk,_⟩:=hseg.next hl hy
    unfold fetch at hk;rw [← hoff,if_neg (fun h=>hcl h.1)] at hk;cases hk
end
end
section
open Go Go.RowKit
theorem putV_len (V:PV)(i:Nat)(x:BitVec 64):(putV V i x).1.T.length=V.T.length∧(putV V i x).1.D.steps≤V.D.steps+3:=by
 have h:=runS_steps V.D (putS ((128+8*i:Nat):Int) x);refine ⟨?_,h⟩;show (if _ then V.T.set i x else V.T).length=_;split
 ·exact List.length_set
 ·rfl
theorem dropV_len (s:HM.Shape)(V:PV)(x:Int):(dropV s V x).1.T.length=V.T.length∧(dropV s V x).1.D.steps≤V.D.steps+3:=by
 unfold dropV;split
 ·exact ⟨rfl,by show V.D.steps≤_;omega⟩
 ·split
  ·exact ⟨rfl,by show V.D.steps≤_;omega⟩
  ·split
   ·exact putV_len _ _ _
   ·exact ⟨rfl,by show V.D.steps≤_;omega⟩
def Sep (w:World)(F:Nat→Prop)(a:Option Addr):Prop:=∀ y,a=some y→y.block<w.heap.size∧¬ F y.block
theorem Sep.turn {w w':World}{F F':Nat→Prop}{a:Option Addr}(h:Sep w F a)(ht:Turn w F w' F'):Sep w' F' a:=fun y hy=>by
 obtain ⟨h1,h2⟩:=h y hy;refine ⟨by have:=ht.mod.size;omega,fun hf=>?_⟩
 rcases ht.new _ hf with h3|h3
 ·exact h2 h3
 ·omega
theorem LksIn.turn {w w':World}{F F':Nat→Prop}{a:Option Addr}{l:List LinkV}{c:Nat}(h:LksIn w a l c)(hs:Sep w F a)(ht:Turn w F w' F'):LksIn w' a l c:=h.mod ht.mod fun y hy=>(hs y hy).2
end
section
open Go Go.RowKit
def LinkV.words (r:LinkV):List (BitVec 64):=encM r.stamp r.nxt r.gone r.text
def LinkV.right (r:LinkV):Bool:=rightB r.stamp r.gone r.text
def addV (s:HM.Shape)(V:PV)(r:LinkV):PV × BitVec 64 × Int :=
 if r.right=false then (V,0#64,2)
 else if (reserveV s V 1).2.2≠0 then ((reserveV s V 1).1,0#64,(reserveV s V 1).2.2)
 else if ((reserveV s V 1).1.D.putAll (reserveV s V 1).2.1 r.words).2≠0 then
  ((dropV s { (reserveV s V 1).1 with D:=((reserveV s V 1).1.D.putAll (reserveV s V 1).2.1 r.words).1 } (reserveV s V 1).2.1).1,0#64,((reserveV s V 1).1.D.putAll (reserveV s V 1).2.1 r.words).2)
 else if (takeV s { (reserveV s V 1).1 with D:=((reserveV s V 1).1.D.putAll (reserveV s V 1).2.1 r.words).1 } (reserveV s V 1).2.1).2≠0 then
  ((dropV s (takeV s { (reserveV s V 1).1 with D:=((reserveV s V 1).1.D.putAll (reserveV s V 1).2.1 r.words).1 } (reserveV s V 1).2.1).1 (reserveV s V 1).2.1).1,0#64,(takeV s { (reserveV s V 1).1 with D:=((reserveV s V 1).1.D.putAll (reserveV s V 1).2.1 r.words).1 } (reserveV s V 1).2.1).2)
 else ((takeV s { (reserveV s V 1).1 with D:=((reserveV s V 1).1.D.putAll (reserveV s V 1).2.1 r.words).1 } (reserveV s V 1).2.1).1,BitVec.ofInt 64 (reserveV s V 1).2.1,0)
theorem PD.cell {w:World}{b p:Nat}{s:HM.Shape}{T H:List (BitVec 64)}{tb tc hb hc:Nat}{F:Nat→Prop}{D:NM.Dv}{g:Nat}(h:PD w b p s T H tb tc hb hc F D)(hg:¬ PdK b tb hb F g)(v:Value):PD (w.setCell ⟨g,0,none⟩ v) b p s T H tb tc hb hc F D :=
 h.mod ((Mod.refl (fun k=>k=g) w).setCell (.inl rfl) v) (fun _ hk e=>hg (e▸hk))
theorem Turn.cell {w0 w:World}{F F':Nat→Prop}{g:Nat}(h:Turn w0 F w F')(hg:w0.heap.size≤g)(v:Value):Turn w0 F (w.setCell ⟨g,0,none⟩ v) F':=⟨h.mod.setCell (.inr hg) v,h.new⟩
theorem not_new {w w':World}{F F':Nat→Prop}{g:Nat}(h:¬ F g)(hlt:g<w.heap.size)(ht:Turn w F w' F'):¬ F' g:=fun hf=>by
 rcases ht.new g hf with h2|h2
 ·exact h h2
 ·omega
section
set_option maxHeartbeats 4000000
variable {w w':World} {b p:Nat} {s:HM.Shape} {tb tc hb hc:Nat} {F F' G:Nat→Prop}
theorem resD (s:HM.Shape)(V:PV)(c:Nat):(reserveV s V c).1.D=V.D∧(reserveV s V c).1.T=V.T:=by
 unfold reserveV
 split<;>exact ⟨rfl,rfl⟩
theorem putAll_steps8 (D:NM.Dv)(off:Int){l:List (BitVec 64)}(hl:l.length=8):(D.putAll off l).1.steps≤D.steps+20:=by
 unfold NM.Dv.putAll;split
 ·have h:=runS_steps D (putAllS off.toNat l);have h2:(putAllS off.toNat l).length≤20:=by
   unfold putAllS;rw [List.length_append,List.length_append,storesS_len,flushesS_len,hl];unfold linesOf;simp only [List.length_singleton]
   split<;>omega
  omega
 ·show D.steps≤_;omega
theorem takeV_len (s:HM.Shape)(V:PV)(x:Int):(takeV s V x).1.T.length=V.T.length∧(takeV s V x).1.D.steps≤V.D.steps+3:=by
 unfold takeV;split
 ·exact ⟨rfl,by show V.D.steps≤_;omega⟩
 ·split
  ·split
   ·exact putV_len _ _ _
   ·exact putV_len _ _ _
  ·exact ⟨rfl,by show V.D.steps≤_;omega⟩
theorem add1_calls (V:PV)(off e:Int)(g1 g2 g3:Nat)(w0:World)(h:PD w0 b p s V.T V.H tb tc hb hc F V.D)(hs:s.table=128)(hn:V.T.length≤64)(hst:V.D.steps+3<1099511627776)(ho:I64 off)(hd:0≤s.data∧s.data≤1000000)
  (k1:Blk w0 g1 #[.int .i64 e] 30) (k2:Blk w0 g2 #[.pointer (some ⟨b,0,none⟩)] 66) (k3:Blk w0 g3 #[.int .i64 off] 3) :
  RetD Tryz.prog 255 #[.pointer (some ⟨g1,0,none⟩),.pointer (some ⟨g2,0,none⟩),.pointer (some ⟨g3,0,none⟩)] w0 fun v w'=>∃ F',
   PD w' b p s (if e=0 then V else (dropV s V off).1).T (if e=0 then V else (dropV s V off).1).H tb tc hb hc F' (if e=0 then V else (dropV s V off).1).D∧Turn w0 (PdK b tb hb F) w' (PdK b tb hb F'):=by
 refine retD_of (args:=[_,_,_]) _ Tryz.func255 rfl Tryz.ntmps255 (by simp) ?_;by_cases he:e=0
 ·subst he;simp -implicitDefEqProofs [go_sem,k1.cell];refine body_end (body_none rfl ?_);exact ⟨F,h,.of (Below.refl _ _)⟩
 ·have he':(e != 0)=true:=bne_iff_ne.2 he;rw [if_neg he];simp -implicitDefEqProofs [go_sem,k1.cell,k2.cell,k3.cell,he'];refine callE_of (poolDrop_calls V off w0 h hs hn hst ho hd) ?_;rintro v w1 ⟨rfl,h1⟩;simp -implicitDefEqProofs [go_sem];exact body_end (body_none rfl h1)
end
end
namespace Dq
open Go Go.RowKit
section
set_option maxHeartbeats 4000000
variable {w w':World} {b p:Nat} {s:HM.Shape} {tb tc hb hc:Nat} {F F' G:Nat→Prop}
theorem ldErr {w:World}{g:Nat}{z:Int}(h:Blk w g #[.int .i64 z] 30):(loadVar 30 ⟨g,0,none⟩).run Tryz.prog w=.ok (.int .i64 z) w:=by
 have:=h.cell 0
 simp [go_sem,this]
theorem resAdd {tmps:Array Value}{e:Env}{w:World}{g:Nat}{x:BitVec 64}{z:Int}(ht:∀ k,tmps.getD k undef=e k)(h6:e 6=.int .u64 (uv x))(h7:e 7=.pointer (some ⟨g,0,none⟩))(h:Blk w g #[.int .i64 z] 30) :
  (results Tryz.f252 tmps).run Tryz.prog w=.ok (.tuple #[.int .u64 (uv x),.int .i64 z]) w:=by
 rw [results_tmp_cell (u:=6) (p:=7) (ty:=30) rfl,ht,ht,h6,h7]
 show ((loadVar 30 ⟨g,0,none⟩).run Tryz.prog w).andThen _=_
 rw [ldErr h];rfl
theorem add_calls (V:PV)(r:LinkV)(w0:World)(h:PD w0 b p s V.T V.H tb tc hb hc F V.D)(hT:Tabs w0)(hs:s.table=128)(hn:V.T.length≤64)(hst:V.D.steps+2000000<1099511627776)(hd:0≤s.data∧s.data≤1000000)(hro:I64 (reserveV s V 1).2.1) :
  Ret Tryz.prog 252 #[.pointer (some ⟨p,0,none⟩),.pointer (some ⟨b,0,none⟩),.agg r.rc] w0 fun v w'=>v=.tuple #[.int .u64 (uv (addV s V r).2.1),.int .i64 (addV s V r).2.2] ∧
   ∃ F',PD w' b p s (addV s V r).1.T (addV s V r).1.H tb tc hb hc F' (addV s V r).1.D∧Turn w0 (PdK b tb hb F) w' (PdK b tb hb F'):=by
 have bel0:=Below.refl w0.heap.size w0
 have hlt:=h.lt
 refine defD_of (args:=[_,_,_]) _ Tryz.func252 rfl Tryz.ntmps252 (by simp) ?_
 refine @rawSeq D0 _ _ _ _ _ _ _ _ ?_
 simp -implicitDefEqProofs [go_sem]
 generalize hw1:World.alloc w0 _=w1 at *
 obtain ⟨hB1,b1,sz1,bel1⟩:=newF hw1 bel0
 replace h:=h.next b1
 generalize hw2:World.alloc w1 _=w2 at *
 obtain ⟨hB2,b2,sz2,bel2⟩:=newF hw2 bel1
 replace h:=h.next b2
 replace hB1:=hB1.next b2
 generalize hw3:World.alloc w2 _=w3 at *
 obtain ⟨hB3,b3,sz3,bel3⟩:=newF hw3 bel2
 replace h:=h.next b3
 replace hB1:=hB1.next b3
 replace hB2:=hB2.next b3
 rw [sz1] at hB2
 rw [sz2,sz1] at hB3
 have ho1:∀ k,PdK b tb hb F k→k<w0.heap.size:=hlt
 obtain ⟨g4,hg4⟩:∃ g,g=w0.heap.size:=⟨_,rfl⟩
 rw [← hg4] at hB1 hB2 hB3 ⊢
 obtain ⟨g7,hg7⟩:∃ g,g=g4+1+1:=⟨_,rfl⟩
 rw [← hg7] at hB3 ⊢
 obtain ⟨g5,hg5⟩:∃ g,g=g4+1:=⟨_,rfl⟩
 rw [← hg5] at hB2 ⊢
 have n4:¬ PdK b tb hb F g4:=fun hf=>by have:=hlt _ hf;omega
 have n7:¬ PdK b tb hb F g7:=fun hf=>by have:=hlt _ hf;omega
 have g74:g4≠g7:=by omega
 have g75:g5≠g7:=by omega
 refine goE_raw ?_
 refine @rawSeq D0 _ _ _ _ _ _ _ _ ?_
 simp -implicitDefEqProofs [go_sem,hB1.cell]
 refine callE_of (chNone_calls w3 h.dev b) ?_
 rintro v w3' ⟨rfl,rfl⟩
 simp -implicitDefEqProofs [go_sem]
 refine goE_raw ?_
 refine @rawSeq D0 _ _ _ _ _ _ _ _ ?_
 have ldR:=ldAll (P:=Tryz.prog) hB2 Tryz.underlying184 rfl recI_ours (n:=4) r.rc_size
 simp -implicitDefEqProofs [go_sem,↓ldR]
 refine callE_of (encode_new r.stamp r.nxt r.gone r.text w3') ?_
 rintro v w4 ⟨ae,ce,rfl,hin4,b4,hnew4⟩
 have l7w3:=hB3.lt
 have bel4:=btr bel3 b4
 replace h:=h.next b4
 replace hB1:=hB1.next b4
 replace hB2:=hB2.next b4
 replace hB3:=hB3.next b4
 obtain ⟨ws,hws⟩:∃ ws,ws=encM r.stamp r.nxt r.gone r.text:=⟨_,rfl⟩
 rw [← hws] at hin4 ⊢
 simp -implicitDefEqProofs [go_sem]
 refine goE_raw ?_
 refine @rawSeq D0 _ _ _ _ _ _ _ _ ?_
 have t4:Turn w0 (PdK b tb hb F) w4 (PdK b tb hb F):=.of bel4
 cases hright:rightB r.stamp r.gone r.text
 ·have hV:addV s V r=(V,0#64,2):=by unfold addV LinkV.right;rw [hright,if_pos rfl]
  rw [hV]
  simp -implicitDefEqProofs [go_sem,hB3.cell,hB3.thaw]
  refine out0 _ (fun tmps ht=>resAdd ht (x:=0#64) (g:=g7) (z:=2) (by simp -implicitDefEqProofs [go_sem];rfl) (by simp -implicitDefEqProofs [go_sem]) (hB3.set 0 _)) ⟨rfl,F,PD.cell h n7 _,t4.cell (by omega) _⟩
 simp -implicitDefEqProofs [go_sem]
 refine goE_raw ?_
 refine @rawSeq D0 _ _ _ _ _ _ _ _ ?_
 simp -implicitDefEqProofs [go_sem,hB1.cell]
 refine callE_of (poolReserve_calls V 1 (.inl rfl) w4 h (hT.next bel4) hn hd) ?_
 rintro v w5 ⟨rfl,h5,t5⟩
 obtain ⟨V1,hV1⟩:∃ V1,V1=(reserveV s V 1).1:=⟨_,rfl⟩
 obtain ⟨off,hoff⟩:∃ off,off=(reserveV s V 1).2.1:=⟨_,rfl⟩
 obtain ⟨e1,he1⟩:∃ e1,e1=(reserveV s V 1).2.2:=⟨_,rfl⟩
 rw [← hV1] at h5
 rw [← hoff] at hro
 rw [← hoff,← he1]
 have tt5:=t4.trans t5
 have hB1':=hB1.mod t5.mod n4
 have hB3':=hB3.mod t5.mod n7
 have hg10:=h5.lt
 have k3:=hB3'.alloc (.cells #[.int .i64 off] 3)
 have k1:=hB1'.alloc (.cells #[.int .i64 off] 3)
 have k10:=Blk.new w5 #[.int .i64 off] 3
 have n7':=not_new n7 hB3.lt t5
 have n4':=not_new n4 hB1.lt t5
 have b56:Below w5.heap.size w5 (w5.alloc (.cells #[.int .i64 off] 3)):=(Below.refl _ _).alloc (Nat.le_refl _) _
 have h6:=PD.cell (h5.next b56) n7' (.int .i64 e1)
 have t6:=(tt5.trans (.of b56)).cell (g:=g7) (by omega) (.int .i64 e1)
 have l7:=hB3'.lt
 have l4:=hB1'.lt
 simp -implicitDefEqProofs [go_sem,k3.cell,k3.thaw]
 have k3':=k3.set 0 (.int .i64 e1)
 have k1':=k1.setOther (a:=⟨g7,0,none⟩) (fun e=>g74 e.symm) (.int .i64 e1)
 have k10':=k10.setOther (a:=⟨g7,0,none⟩) (show g7≠w5.heap.size by omega) (.int .i64 e1)
 have n10:¬ PdK b tb hb F w5.heap.size:=fun hf=>by have:=hg10 _ hf;omega
 have l10:w0.heap.size≤w5.heap.size:=by have:=tt5.mod.size;omega
 obtain ⟨g10,hg10'⟩:∃ g,g=w5.heap.size:=⟨_,rfl⟩
 rw [← hg10'] at k10' n10 l10 ⊢
 have hfr:∀ y,ae=some y→¬ PdK b tb hb F y.block:=fun y hy hf=>by have:=(hnew4 y hy).1;have:=hlt _ hf;have:=bel3.size;omega
 have hin5:=(hin4.mod t5.mod (fun y ⟨o,ho⟩=>hfr _ ho)).next b56
 have hin6:SlIn .u64 ((w5.alloc (.cells #[.int .i64 off] 3)).setCell ⟨g7,0,none⟩ (.int .i64 e1)) ae ws ce :=
  hin5.mod (((Mod.refl (fun k=>k=g7) (w5.alloc (.cells #[.int .i64 off] 3))).setCell (.inl rfl) _)) (fun y ⟨o,ho⟩ e=>by
   have h1:w3'.heap.size≤y:=(hnew4 _ ho).1
   have h2:y=g7:=e
   omega)
 have hws8:ws.length=8:=by rw [hws];unfold encM;rw [if_pos hright];rfl
 have hD1:V1.D=V.D:=by rw [hV1];exact (resD s V 1).1
 have hT1:V1.T=V.T:=by rw [hV1];exact (resD s V 1).2
 have hsp:=putAll_steps8 V1.D off hws8
 rw [hD1] at hsp
 generalize World.setCell (World.alloc w5 _) _ _=w6 at *
 refine goE_raw ?_
 refine @rawSeq D0 _ _ _ _ _ _ _ _ ?_
 by_cases he:e1=0
 ·subst he
  have he0:(reserveV s V 1).2.2=0:=he1.symm
  simp -implicitDefEqProofs [go_sem,k3'.cell]
  refine goE_raw ?_
  refine rawDefer (capv:=#[.pointer (some ⟨g7,0,none⟩),.pointer (some ⟨g4,0,none⟩),.pointer (some ⟨g10,0,none⟩)]) (by decide) ?_ rfl (by simp -implicitDefEqProofs [go_sem])
  have hres:I64 off:=hro
  refine @rawSeq (D1 _) _ _ _ _ _ _ _ _ ?_
  simp -implicitDefEqProofs [go_sem,k10'.cell]
  refine callE_of (putAll_calls off ae ws ce w6 h6.dev hin6 hro (by rw [hD1];omega)) ?_
  rintro v w7 ⟨rfl,F7,hd7,t7⟩
  have h7:=h6.turn hd7 t7
  have tt7:=turn_pd (b:=b) (tb:=tb) (hb:=hb) t7
  have n77:=not_new n7' k3'.lt tt7
  have n47:=not_new n4' k1'.lt tt7
  have n107:=not_new n10 k10'.lt tt7
  have k7:=k3'.mod tt7.mod n7'
  have k4:=k1'.mod tt7.mod n4'
  have k17:=k10'.mod tt7.mod n10
  obtain ⟨R7,hR7⟩:∃ R,R=V1.D.putAll off ws:=⟨_,rfl⟩
  rw [← hR7] at h7 ⊢
  obtain ⟨V8,hV8⟩:∃ V8:PV,V8={ V1 with D:=R7.1 }:=⟨_,rfl⟩
  have t7':=t6.trans tt7
  have q7:PD w7 b p s V8.T V8.H tb tc hb hc F7 V8.D:=by rw [hV8];exact h7
  have hT8:V8.T.length≤64:=by rw [hV8];show V1.T.length≤64;rw [hT1];exact hn
  have hS8:V8.D.steps≤V.D.steps+20:=by rw [hV8];show R7.1.steps≤_;rw [hR7,hD1];exact hsp
  have hadd:addV s V r=if R7.2≠0 then ((dropV s V8 off).1,0#64,R7.2) else if (takeV s V8 off).2≠0 then ((dropV s (takeV s V8 off).1 off).1,0#64,(takeV s V8 off).2) else ((takeV s V8 off).1,BitVec.ofInt 64 off,0):=by
   rw [hV8,hR7,hV1,hoff,hws]
   unfold addV LinkV.right LinkV.words
   rw [hright,if_neg (by decide),if_neg (by rw [he0];simp)]
  simp -implicitDefEqProofs [go_sem,k7.cell,k7.thaw]
  have k8:=k7.set 0 (.int .i64 R7.2)
  have k48:=k4.setOther (a:=⟨g7,0,none⟩) (fun e=>g74 e.symm) (.int .i64 R7.2)
  have g710:g7≠g10:=by omega
  have k108:=k17.setOther (a:=⟨g7,0,none⟩) g710 (.int .i64 R7.2)
  have q8:=PD.cell q7 n77 (.int .i64 R7.2)
  have t8:=t7'.cell (g:=g7) (by omega) (.int .i64 R7.2)
  have hsz8:w0.heap.size≤(w7.setCell ⟨g7,0,none⟩ (.int .i64 R7.2)).heap.size:=t8.mod.size
  generalize World.setCell w7 _ _=w8 at *
  by_cases he7:R7.2=0
  ·rw [if_neg (by rw [he7];simp)] at hadd
   rw [he7] at k8 ⊢
   simp -implicitDefEqProofs [go_sem]
   refine goE_raw ?_
   refine @rawSeq (D1 _) _ _ _ _ _ _ _ _ ?_
   simp -implicitDefEqProofs [go_sem,k48.cell,k108.cell]
   refine callE_of (poolTake_calls V8 off w8 q8 hs hT8 (by omega) hro hd) ?_
   rintro v w9 ⟨rfl,F9,q9,t9⟩
   obtain ⟨V9,hV9⟩:∃ V9,V9=(takeV s V8 off).1:=⟨_,rfl⟩
   obtain ⟨e9,he9⟩:∃ e9,e9=(takeV s V8 off).2:=⟨_,rfl⟩
   have hT9:V9.T.length≤64:=by rw [hV9,(takeV_len s V8 off).1];exact hT8
   have hS9:V9.D.steps≤V.D.steps+23:=by have:=(takeV_len s V8 off).2;rw [hV9];omega
   rw [← hV9] at q9 hadd
   rw [← he9] at hadd ⊢
   have n79:=not_new n77 k8.lt t9
   have n49:=not_new n47 k48.lt t9
   have n109:=not_new n107 k108.lt t9
   have k9:=k8.mod t9.mod n77
   have k49:=k48.mod t9.mod n47
   have k109:=k108.mod t9.mod n107
   have tt9:=t8.trans t9
   simp -implicitDefEqProofs [go_sem,k9.cell,k9.thaw]
   have k10:=k9.set 0 (.int .i64 e9)
   have k410:=k49.setOther (a:=⟨g7,0,none⟩) (fun e=>g74 e.symm) (.int .i64 e9)
   have k1010:=k109.setOther (a:=⟨g7,0,none⟩) g710 (.int .i64 e9)
   have q10:=PD.cell q9 n79 (.int .i64 e9)
   have t10:=tt9.cell (g:=g7) (by omega) (.int .i64 e9)
   generalize World.setCell w9 _ _=w10 at *
   by_cases hz9:e9=0
   ·rw [if_neg (by rw [hz9];simp)] at hadd
    rw [hadd]
    rw [hz9] at k10 ⊢
    simp -implicitDefEqProofs [go_sem]
    refine goE_raw ?_
    refine @rawAll (D1 _) _ _ _ _ _ _ _ ?_
    simp -implicitDefEqProofs [go_sem,k1010.cell,k10.cell,k10.thaw]
    have k11:=k10.set 0 (.int .i64 0)
    have k411:=k410.setOther (a:=⟨g7,0,none⟩) (fun e=>g74 e.symm) (.int .i64 0)
    have k1011:=k1010.setOther (a:=⟨g7,0,none⟩) g710 (.int .i64 0)
    have q11:=PD.cell q10 n79 (.int .i64 0)
    have t11:=t10.cell (g:=g7) (by omega) (.int .i64 0)
    generalize World.setCell w10 _ _=w11 at *
    refine out1 (args:=#[.pointer (some ⟨g7,0,none⟩),.pointer (some ⟨g4,0,none⟩),.pointer (some ⟨g10,0,none⟩)]) (by simp -implicitDefEqProofs [go_sem]) (add1_calls V9 off 0 g7 g4 g10 w11 q11 hs hT9 (by omega) hro hd k11 k411 k1011) ?_
    rintro v w12 ⟨F12,q12,t12⟩
    rw [if_pos rfl] at q12
    refine ⟨_,fun tmps ht=>resAdd ht (x:=BitVec.ofInt 64 off) (g:=g7) (z:=0) (by simp -implicitDefEqProofs [go_sem]) (by simp -implicitDefEqProofs [go_sem]) (k11.mod t12.mod n79),rfl,F12,q12,t11.trans t12⟩
   ·rw [if_pos hz9] at hadd
    rw [hadd]
    have hz9':(e9 != 0)=true:=bne_iff_ne.2 hz9
    simp -implicitDefEqProofs [go_sem,hz9']
    refine @drawE_tail (D1 _) _ _ _ _ _ _ _ _ _ _ 2 mixed (by decide +kernel) (by simp only [wt];rfl) (by simp only [wt];rfl) ?_
    replace q10:=q10.next (Below.refl _ _).drew
    replace k10:=k10.next (Below.refl _ _).drew
    replace k410:=k410.next (Below.refl _ _).drew
    replace k1010:=k1010.next (Below.refl _ _).drew
    replace t10:=t10.trans (.of (Below.refl _ _).drew)
    generalize World.drew w10=w11 at *
    simp -implicitDefEqProofs [go_sem,k10.cell]
    unfold endE
    simp -implicitDefEqProofs [go_sem,k10.cell,k10.thaw]
    have k11:=k10.set 0 (.int .i64 e9)
    have k411:=k410.setOther (a:=⟨g7,0,none⟩) (fun e=>g74 e.symm) (.int .i64 e9)
    have k1011:=k1010.setOther (a:=⟨g7,0,none⟩) g710 (.int .i64 e9)
    have q11:=PD.cell q10 n79 (.int .i64 e9)
    have t11:=t10.cell (g:=g7) (by omega) (.int .i64 e9)
    generalize World.setCell w11 _ _=w12 at *
    refine out1 (args:=#[.pointer (some ⟨g7,0,none⟩),.pointer (some ⟨g4,0,none⟩),.pointer (some ⟨g10,0,none⟩)]) (by simp -implicitDefEqProofs [go_sem]) (add1_calls V9 off e9 g7 g4 g10 w12 q11 hs hT9 (by omega) hro hd k11 k411 k1011) ?_
    rintro v w13 ⟨F13,q13,t13⟩
    rw [if_neg hz9] at q13
    refine ⟨_,fun tmps ht=>resAdd ht (x:=0#64) (g:=g7) (z:=e9) (by simp -implicitDefEqProofs [go_sem];rfl) (by simp -implicitDefEqProofs [go_sem]) (k11.mod t13.mod n79),rfl,F13,q13,t11.trans t13⟩
  ·rw [if_pos he7] at hadd
   have he7':(R7.2 != 0)=true:=bne_iff_ne.2 he7
   rw [hadd]
   simp -implicitDefEqProofs [go_sem,he7']
   refine @drawE_tail (D1 _) _ _ _ _ _ _ _ _ _ _ 2 mixed (by decide +kernel) (by simp only [wt];rfl) (by simp only [wt];rfl) ?_
   replace q8:=q8.next (Below.refl _ _).drew
   replace k8:=k8.next (Below.refl _ _).drew
   replace k48:=k48.next (Below.refl _ _).drew
   replace k108:=k108.next (Below.refl _ _).drew
   replace t8:=t8.trans (.of (Below.refl _ _).drew)
   generalize World.drew w8=w9 at *
   simp -implicitDefEqProofs [go_sem,k8.cell]
   unfold endE
   simp -implicitDefEqProofs [go_sem,k8.cell,k8.thaw]
   have k9:=k8.set 0 (.int .i64 R7.2)
   have k49:=k48.setOther (a:=⟨g7,0,none⟩) (fun e=>g74 e.symm) (.int .i64 R7.2)
   have k109:=k108.setOther (a:=⟨g7,0,none⟩) g710 (.int .i64 R7.2)
   have q9:=PD.cell q8 n77 (.int .i64 R7.2)
   have t9:=t8.cell (g:=g7) (by omega) (.int .i64 R7.2)
   generalize World.setCell w9 _ _=w10 at *
   refine out1 (args:=#[.pointer (some ⟨g7,0,none⟩),.pointer (some ⟨g4,0,none⟩),.pointer (some ⟨g10,0,none⟩)]) (by simp -implicitDefEqProofs [go_sem]) (add1_calls V8 off R7.2 g7 g4 g10 w10 q9 hs hT8 (by omega) hro hd k9 k49 k109) ?_
   rintro v w11 ⟨F11,q11,t11⟩
   rw [if_neg he7] at q11
   refine ⟨_,fun tmps ht=>resAdd ht (x:=0#64) (g:=g7) (z:=R7.2) (by simp -implicitDefEqProofs [go_sem];rfl) (by simp -implicitDefEqProofs [go_sem]) (k9.mod t11.mod n77),rfl,F11,q11,t9.trans t11⟩
 ·have he':(e1 != 0)=true:=bne_iff_ne.2 he
  have hV:addV s V r=(V1,0#64,e1):=by
   unfold addV LinkV.right
   rw [hright,if_neg (by decide),if_pos (by rw [← he1];exact he),← he1,← hV1]
  rw [hV]
  simp -implicitDefEqProofs [go_sem,k3'.cell,he']
  refine @drawE_tail (D0) _ _ _ _ _ _ _ _ _ _ 2 mixed (by decide +kernel) (by simp only [wt];rfl) (by simp only [wt];rfl) ?_
  replace h6:=h6.next (Below.refl _ _).drew
  replace k3':=k3'.next (Below.refl _ _).drew
  replace t6:=t6.trans (.of (Below.refl _ _).drew)
  generalize World.drew w6=w7 at *
  simp -implicitDefEqProofs [go_sem,k3'.cell]
  unfold endE
  simp -implicitDefEqProofs [go_sem,k3'.cell,k3'.thaw]
  refine out0 _ (fun tmps ht=>resAdd ht (x:=0#64) (g:=g7) (z:=e1) (by simp -implicitDefEqProofs [go_sem];rfl) (by simp -implicitDefEqProofs [go_sem]) (k3'.set 0 _)) ⟨rfl,F,PD.cell h6 n7' _,t6.cell (by omega) _⟩
end
end Dq
end Go.Proofs.YtaaihijkdhmcdaaGreatDoor
