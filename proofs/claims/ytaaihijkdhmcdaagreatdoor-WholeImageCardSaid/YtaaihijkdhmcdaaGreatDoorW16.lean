/- WholeImage, part 17 of 38: contracts and lemmas of its proof. Conditions: none. -/
import Derived.WalkKit
set_option linter.unusedVariables false
set_option linter.unusedSimpArgs false
set_option maxRecDepth 100000
namespace Go.Proofs.YtaaihijkdhmcdaaGreatDoor
section
section
namespace TR
abbrev Nb:=BitVec 8
structure NdV where
 pre:List Nb
 val:BitVec 64
 labels:List Nb
 kids:List (BitVec 64)
mutual
inductive Tr where
 | nd (off:Nat) (pre:List Nb) (val:BitVec 64) (ks:Ks)
inductive Ks where
 | nil
 | cons (x:Nb) (t:Tr) (r:Ks)
end
def nameW (o:Nat):BitVec 64:=BitVec.ofNat 64 o
def Tr.off:Tr→Nat
 | .nd o _ _ _=>o
def Tr.pre:Tr→List Nb
 | .nd _ p _ _=>p
def Tr.val:Tr→BitVec 64
 | .nd _ _ v _=>v
def Tr.ks:Tr→Ks
 | .nd _ _ _ k=>k
def Ks.labels:Ks→List Nb
 | .nil=>[]
 | .cons x _ r=>x::r.labels
def Ks.offs:Ks→List (BitVec 64)
 | .nil=>[]
 | .cons _ t r=>nameW t.off::r.offs
def Ks.len:Ks→Nat
 | .nil=>0
 | .cons _ _ r=>r.len+1
def Ks.app:Ks→Ks→Ks
 | .nil,k=>k
 | .cons x t r,k=>.cons x t (r.app k)
def Tr.nv:Tr→NdV
 | .nd _ p v k=>⟨p,v,k.labels,k.offs⟩
mutual
def Tr.nodes:Tr→List Nat
 | .nd o _ _ k=>o::k.nodes
def Ks.nodes:Ks→List Nat
 | .nil=>[]
 | .cons _ t r=>t.nodes++r.nodes
end
abbrev Item:=List Nb × BitVec 64
def own (a:List Nb)(v:BitVec 64):List Item:=if v=0#64 then [] else [(a,v)]
mutual
def Tr.items (a:List Nb):Tr→List Item
 | .nd _ p v k=>own (a++p) v++k.items (a++p)
def Ks.items (a:List Nb):Ks→List Item
 | .nil=>[]
 | .cons x t r=>t.items (a++[x])++r.items a
end
def Rise (l:List Nb):Prop:=l.Pairwise fun x y=>x.toNat<y.toNat
mutual
def Tr.Ok (a:List Nb):Tr→Prop
 | .nd _ p v k=>p.length≤15∧(∀ x∈p,x.toNat<16)∧(a++p).length≤32∧(v≠0#64→(a++p).length%2=0)∧Rise k.labels∧k.Ok (a++p)
def Ks.Ok (a:List Nb):Ks→Prop
 | .nil=>True
 | .cons x t r=>x.toNat<16∧t.Ok (a++[x])∧r.Ok a
end
mutual
def Tr.At (N:Nat→NdV→Prop):Tr→Prop
 | .nd o p v k=>N o ⟨p,v,k.labels,k.offs⟩∧k.At N
def Ks.At (N:Nat→NdV→Prop):Ks→Prop
 | .nil=>True
 | .cons _ t r=>t.At N∧r.At N
end
theorem app_labels:∀ l k:Ks,(l.app k).labels=l.labels++k.labels
 | .nil,_=>rfl
 | .cons x t r,k=>by simp only [Ks.app,Ks.labels,app_labels r k,List.cons_append]
theorem app_offs:∀ l k:Ks,(l.app k).offs=l.offs++k.offs
 | .nil,_=>rfl
 | .cons x t r,k=>by simp only [Ks.app,Ks.offs,app_offs r k,List.cons_append]
theorem app_nodes:∀ l k:Ks,(l.app k).nodes=l.nodes++k.nodes
 | .nil,_=>by simp only [Ks.app,Ks.nodes,List.nil_append]
 | .cons x t r,k=>by simp only [Ks.app,Ks.nodes,app_nodes r k,List.append_assoc]
theorem app_items (a:List Nb):∀ l k:Ks,(l.app k).items a=l.items a++k.items a
 | .nil,_=>by simp only [Ks.app,Ks.items,List.nil_append]
 | .cons x t r,k=>by simp only [Ks.app,Ks.items,app_items a r k,List.append_assoc]
theorem app_ok (a:List Nb):∀ l k:Ks,(l.app k).Ok a↔l.Ok a∧k.Ok a
 | .nil,_=>by simp only [Ks.app,Ks.Ok,true_and]
 | .cons x t r,k=>by simp only [Ks.app,Ks.Ok,app_ok a r k,and_assoc]
theorem app_at (N:Nat→NdV→Prop):∀ l k:Ks,(l.app k).At N↔l.At N∧k.At N
 | .nil,_=>by simp only [Ks.app,Ks.At,true_and]
 | .cons x t r,k=>by simp only [Ks.app,Ks.At,app_at N r k,and_assoc]
theorem app_nil:∀ l:Ks,l.app .nil=l
 | .nil=>rfl
 | .cons x t r=>by simp only [Ks.app,app_nil r]
theorem app_len:∀ l k:Ks,(l.app k).len=l.len+k.len
 | .nil,_=>by simp [Ks.app,Ks.len]
 | .cons x t r,k=>by simp only [Ks.app,Ks.len,app_len r k];omega
theorem labels_len:∀ k:Ks,k.labels.length=k.len
 | .nil=>rfl
 | .cons _ _ r=>by simp only [Ks.labels,List.length_cons,labels_len r,Ks.len]
theorem offs_len:∀ k:Ks,k.offs.length=k.len
 | .nil=>rfl
 | .cons _ _ r=>by simp only [Ks.offs,List.length_cons,offs_len r,Ks.len]
theorem kid_split {x:Nb}:∀ {k:Ks},x∈k.labels→∃ (l:Ks) (t:Tr) (r:Ks),k=l.app (.cons x t r)∧x∉l.labels
 | .nil,h=>by cases h
 | .cons y t r,h=>by
  by_cases e:x=y
  ·subst e;exact ⟨.nil,t,r,rfl,fun h=>by cases h⟩
  ·have h2:x∈r.labels:=by
    rcases List.mem_cons.1 h with h|h
    ·exact absurd h e
    ·exact h
   obtain ⟨l,t2,r2,e2,e3⟩:=kid_split h2;refine ⟨.cons y t l,t2,r2,by rw [e2];rfl,fun h=>?_⟩
   rcases List.mem_cons.1 h with h|h
   ·exact e h
   ·exact e3 h
theorem rise_len {l:List Nb}(h:Rise l)(h16:∀ x∈l,x.toNat<16):l.length≤16:=by
 have key:∀ (l:List Nb) (b:Nat),Rise l→(∀ x∈l,b≤x.toNat∧x.toNat<16)→l.length+b≤16∨l=[]:=by
  intro l
  induction l with
  | nil=>intro b _ _;exact .inr rfl
  | cons x l ih =>
   intro b hr hb;have h1:=hb x List.mem_cons_self;have h2:=List.pairwise_cons.1 hr
   rcases ih (x.toNat+1) h2.2 (fun y hy=>⟨h2.1 y hy,(hb y (List.mem_cons_of_mem _ hy)).2⟩) with h3|h3
   ·left;simp only [List.length_cons];omega
   ·subst h3;left;simp only [List.length_cons,List.length_nil];omega
 rcases key l 0 h (fun x hx=>⟨Nat.zero_le _,h16 x hx⟩) with h1|h1
 ·omega
 ·subst h1;simp
mutual
theorem items_pre (a:List Nb):∀ (t:Tr),∀ e∈t.items a,(a++t.pre) <+: e.1
 | .nd o p v k,e,h=>by
  unfold Tr.items at h
  rcases List.mem_append.1 h with h|h
  ·unfold own at h;split at h
   ·cases h
   ·rw [List.mem_singleton] at h;subst h;exact List.prefix_refl _
  ·obtain ⟨x,_,h2⟩:=kids_pre (a++p) k e h;exact (List.prefix_append _ _).trans h2
theorem kids_pre (a:List Nb):∀ (k:Ks),∀ e∈k.items a,∃ x,x∈k.labels∧(a++[x]) <+: e.1
 | .nil,e,h=>by unfold Ks.items at h;cases h
 | .cons x t r,e,h=>by
  unfold Ks.items at h
  rcases List.mem_append.1 h with h|h
  ·have h1:=items_pre (a++[x]) t e h;exact ⟨x,List.mem_cons_self,(List.prefix_append _ _).trans h1⟩
  ·obtain ⟨y,h1,h2⟩:=kids_pre a r e h;exact ⟨y,List.mem_cons_of_mem _ h1,h2⟩
end
theorem pre_inj {a:List Nb}{x y:Nb}{k:List Nb}(h:(a++[x]) <+: k)(h2:(a++[y]) <+: k):x=y:=by
 obtain ⟨u,rfl⟩:=h;obtain ⟨v,h2⟩:=h2;rw [List.append_assoc,List.append_assoc] at h2;have:=List.append_cancel_left h2;simp at this;exact this.1.symm
theorem pre_ne {a:List Nb}{x:Nb}(h:(a++[x]) <+: a):False:=by
 have:=h.length_le;simp only [List.length_append,List.length_singleton] at this;omega
theorem own_mem {a:List Nb}{v:BitVec 64}{e:Item}(h:e∈own a v):e=(a,v)∧v≠0#64:=by
 unfold own at h;split at h
 ·cases h
 ·rename_i h2;rw [List.mem_singleton] at h;exact ⟨h,h2⟩
theorem own_zero (a:List Nb):own a 0#64=[]:=by unfold own;rw [if_pos rfl]
theorem own_pos (a:List Nb){v:BitVec 64}(h:v≠0#64):own a v=[(a,v)]:=by unfold own;rw [if_neg h]
def Keys (l:List Item):Prop:=(l.map Prod.fst).Nodup
theorem keys_app {l r:List Item}:Keys (l++r)↔Keys l∧Keys r∧∀ e∈l,∀ f∈r,e.1≠f.1:=by
 unfold Keys;rw [List.map_append,List.nodup_append];refine and_congr_right fun _=>and_congr_right fun _=>⟨fun h e he f hf=>h _ (List.mem_map_of_mem he) _ (List.mem_map_of_mem hf),fun h x hx y hy=>?_⟩
 obtain ⟨e,he,rfl⟩:=List.mem_map.1 hx;obtain ⟨f,hf,rfl⟩:=List.mem_map.1 hy;exact h e he f hf
mutual
theorem items_keys (a:List Nb):∀ (t:Tr),t.Ok a→Keys (t.items a)
 | .nd o p v k,h=>by
  unfold Tr.Ok at h;unfold Tr.items;refine keys_app.2 ⟨?_,kids_keys (a++p) k h.2.2.2.2.2 h.2.2.2.2.1,fun e he f hf hne=>?_⟩
  ·unfold own Keys;split<;>simp
  ·obtain ⟨rfl,_⟩:=own_mem he;obtain ⟨x,_,h2⟩:=kids_pre (a++p) k f hf;rw [← hne] at h2;exact pre_ne h2
theorem kids_keys (a:List Nb):∀ (k:Ks),k.Ok a→Rise k.labels→Keys (k.items a)
 | .nil,_,_=>by unfold Ks.items Keys;simp
 | .cons x t r,h,hr=>by
  unfold Ks.Ok at h;unfold Ks.items;have hr2:=List.pairwise_cons.1 hr;refine keys_app.2 ⟨items_keys (a++[x]) t h.2.1,kids_keys a r h.2.2 hr2.2,fun e he f hf hne=>?_⟩;obtain ⟨y,h1,h2⟩:=kids_pre a r f hf;have h3:=(List.prefix_append _ _).trans (items_pre (a++[x]) t e he);rw [hne] at h3;have h4:=pre_inj h3 h2;have h5:=hr2.1 y h1;rw [h4] at h5;omega
end
mutual
theorem items_len (a:List Nb):∀ (t:Tr),t.Ok a→∀ e∈t.items a,e.1.length≤32∧e.1.length%2=0∧e.2≠0#64∧((∀ x∈a,x.toNat<16)→∀ x∈e.1,x.toNat<16)
 | .nd o p v k,h,e,he=>by
  unfold Tr.Ok at h;unfold Tr.items at he
  rcases List.mem_append.1 he with he|he
  ·obtain ⟨rfl,hv⟩:=own_mem he;refine ⟨h.2.2.1,h.2.2.2.1 hv,hv,fun ha x hx=>?_⟩
   rcases List.mem_append.1 hx with hx|hx
   ·exact ha x hx
   ·exact h.2.1 x hx
  ·obtain ⟨h1,h2,h3,h4⟩:=kids_len (a++p) k h.2.2.2.2.2 e he;refine ⟨h1,h2,h3,fun ha=>h4 fun x hx=>?_⟩
   rcases List.mem_append.1 hx with hx|hx
   ·exact ha x hx
   ·exact h.2.1 x hx
theorem kids_len (a:List Nb):∀ (k:Ks),k.Ok a→∀ e∈k.items a,e.1.length≤32∧e.1.length%2=0∧e.2≠0#64∧((∀ x∈a,x.toNat<16)→∀ x∈e.1,x.toNat<16)
 | .nil,_,e,he=>by unfold Ks.items at he;cases he
 | .cons x t r,h,e,he=>by
  unfold Ks.Ok at h;unfold Ks.items at he
  rcases List.mem_append.1 he with he|he
  ·obtain ⟨h1,h2,h3,h4⟩:=items_len (a++[x]) t h.2.1 e he;refine ⟨h1,h2,h3,fun ha=>h4 fun y hy=>?_⟩
   rcases List.mem_append.1 hy with hy|hy
   ·exact ha y hy
   ·rw [List.mem_singleton] at hy;rw [hy];exact h.1
  ·exact kids_len a r h.2.2 e he
end
mutual
theorem at_mono {N N':Nat→NdV→Prop}:∀ {t:Tr},t.At N→(∀ o∈t.nodes,∀ n,N o n→N' o n)→t.At N'
 | .nd o p v k,h,hm=>by
  unfold Tr.At at h ⊢;exact ⟨hm o (by unfold Tr.nodes;exact List.mem_cons_self) _ h.1,kids_mono h.2 fun o' ho=>hm o' (by unfold Tr.nodes;exact List.mem_cons_of_mem _ ho)⟩
theorem kids_mono {N N':Nat→NdV→Prop}:∀ {k:Ks},k.At N→(∀ o∈k.nodes,∀ n,N o n→N' o n)→k.At N'
 | .nil,_,_=>by unfold Ks.At;trivial
 | .cons x t r,h,hm=>by
  unfold Ks.At at h ⊢;exact ⟨at_mono h.1 fun o ho=>hm o (by unfold Ks.nodes;exact List.mem_append_left _ ho),kids_mono h.2 fun o ho=>hm o (by unfold Ks.nodes;exact List.mem_append_right _ ho)⟩
end
structure Fr where
 off:Nat
 pre:List Nb
 val:BitVec 64
 l:Ks
 x:Nb
 r:Ks
def Fr.fill (f:Fr)(t:Tr):Tr:=.nd f.off f.pre f.val (f.l.app (.cons f.x t f.r))
def plug:List Fr→Tr→Tr
 | [],t=>t
 | f::c,t=>f.fill (plug c t)
def pth:List Fr→List Nb
 | []=>[]
 | f::c=>f.pre++f.x::pth c
theorem plug_app:∀ (c d:List Fr) (t:Tr),plug (c++d) t=plug c (plug d t)
 | [],_,_=>rfl
 | f::c,d,t=>by show f.fill (plug (c++d) t)=f.fill (plug c (plug d t));rw [plug_app c d t]
theorem pth_app:∀ (c d:List Fr),pth (c++d)=pth c++pth d
 | [],_=>rfl
 | f::c,d=>by show f.pre++f.x::pth (c++d)=f.pre++f.x::pth c++pth d;rw [pth_app c d];simp
theorem fill_items (f:Fr)(t:Tr)(a:List Nb):(f.fill t).items a=(own (a++f.pre) f.val++f.l.items (a++f.pre))++t.items (a++f.pre++[f.x])++f.r.items (a++f.pre):=by
 unfold Fr.fill;rw [Tr.items,app_items];simp only [Ks.items,List.append_assoc]
theorem fill_nodes (f:Fr)(t:Tr):(f.fill t).nodes=(f.off::f.l.nodes)++t.nodes++f.r.nodes:=by
 unfold Fr.fill;rw [Tr.nodes,app_nodes];simp only [Ks.nodes,List.append_assoc,List.cons_append]
theorem fill_ok {f:Fr}{t:Tr}{a:List Nb}(h:(f.fill t).Ok a):t.Ok (a++f.pre++[f.x]):=by
 unfold Fr.fill Tr.Ok at h;have:=h.2.2.2.2.2;rw [app_ok] at this;unfold Ks.Ok at this;exact this.2.2.1
theorem fill_ok' {f:Fr}{t t':Tr}{a:List Nb}(h:(f.fill t).Ok a)(h':t'.Ok (a++f.pre++[f.x])):(f.fill t').Ok a:=by
 unfold Fr.fill Tr.Ok at h ⊢;obtain ⟨h1,h2,h3,h4,h5,h6⟩:=h;rw [app_ok] at h6 ⊢;unfold Ks.Ok at h6 ⊢;rw [app_labels] at h5 ⊢;exact ⟨h1,h2,h3,h4,h5,h6.1,h6.2.1,h',h6.2.2.2⟩
theorem plug_ok:∀ {c:List Fr} {t:Tr} {a:List Nb},(plug c t).Ok a→t.Ok (a++pth c)
 | [],t,a,h=>by rw [show pth []=[] from rfl,List.append_nil];exact h
 | f::c,t,a,h=>by
  have h1:=plug_ok (fill_ok (f:=f) h);have e:a++pth (f::c)=a++f.pre++[f.x]++pth c:=by simp [pth]
  rw [e];exact h1
theorem plug_ok':∀ {c:List Fr} {t t':Tr} {a:List Nb},(plug c t).Ok a→t'.Ok (a++pth c)→(plug c t').Ok a
 | [],t,t',a,_,h'=>by rw [show pth []=[] from rfl,List.append_nil] at h';exact h'
 | f::c,t,t',a,h,h'=>by
  have e:a++pth (f::c)=a++f.pre++[f.x]++pth c:=by simp [pth]
  rw [e] at h';exact fill_ok' (f:=f) h (plug_ok' (fill_ok (f:=f) h) h')
def itL (a:List Nb):List Fr→List Item
 | []=>[]
 | f::c=>own (a++f.pre) f.val++f.l.items (a++f.pre)++itL (a++f.pre++[f.x]) c
def itR (a:List Nb):List Fr→List Item
 | []=>[]
 | f::c=>itR (a++f.pre++[f.x]) c++f.r.items (a++f.pre)
def ndL:List Fr→List Nat
 | []=>[]
 | f::c=>f.off::f.l.nodes++ndL c
def ndR:List Fr→List Nat
 | []=>[]
 | f::c=>ndR c++f.r.nodes
theorem plug_items:∀ (c:List Fr) (t:Tr) (a:List Nb),(plug c t).items a=itL a c++t.items (a++pth c)++itR a c
 | [],t,a=>by simp [plug,itL,itR,pth]
 | f::c,t,a=>by
  show (f.fill (plug c t)).items a=_;rw [fill_items,plug_items c t];have e:a++pth (f::c)=a++f.pre++[f.x]++pth c:=by simp [pth]
  rw [e];simp only [itL,itR,List.append_assoc]
theorem plug_nodes:∀ (c:List Fr) (t:Tr),(plug c t).nodes=ndL c++t.nodes++ndR c
 | [],t=>by simp [plug,ndL,ndR]
 | f::c,t=>by
  show (f.fill (plug c t)).nodes=_;rw [fill_nodes,plug_nodes c t];simp only [ndL,ndR,List.append_assoc,List.cons_append]
theorem itL_other:∀ {c:List Fr} {t:Tr} {a:List Nb},(plug c t).Ok a→∀ e∈itL a c++itR a c,¬ (a++pth c) <+: e.1
 | [],t,a,_,e,he,_=>by simp [itL,itR] at he
 | f::c,t,a,h,e,he,hp=>by
  have e0:a++pth (f::c)=a++f.pre++[f.x]++pth c:=by simp [pth]
  rw [e0] at hp;have hx:(a++f.pre++[f.x]) <+: e.1:=(List.prefix_append _ _).trans hp;have ih:=itL_other (fill_ok (f:=f) h) e;have hr:Rise (f.l.labels++f.x::f.r.labels):=by
   have h2:(f.fill (plug c t)).Ok a:=h;unfold Fr.fill Tr.Ok at h2;have:=h2.2.2.2.2.1;rw [app_labels] at this;exact this
  obtain ⟨r1,r2,r3⟩:=List.pairwise_append.1 hr;have sib:∀ k:Ks,f.x∉k.labels→e∉k.items (a++f.pre):=fun k hk hm=>by
   obtain ⟨y,h1,h2⟩:=kids_pre _ k e hm;rw [pre_inj hx h2] at hk;exact hk h1
  unfold itL itR at he;have he2:e∈own (a++f.pre) f.val∨e∈f.l.items (a++f.pre)∨e∈itL (a++f.pre++[f.x]) c++itR (a++f.pre++[f.x]) c∨e∈f.r.items (a++f.pre):=by
   simp only [List.mem_append] at he ⊢
   rcases he with ((h|h)|h)|h|h
   ·exact .inl h
   ·exact .inr (.inl h)
   ·exact .inr (.inr (.inl (.inl h)))
   ·exact .inr (.inr (.inl (.inr h)))
   ·exact .inr (.inr (.inr h))
  rcases he2 with he|he|he|he
  ·obtain ⟨rfl,_⟩:=own_mem he;exact pre_ne hx
  ·exact sib f.l (fun hm=>by have:=r3 _ hm f.x List.mem_cons_self;omega) he
  ·exact ih he hp
  ·exact sib f.r (fun hm=>by have:=(List.pairwise_cons.1 r2).1 _ hm;omega) he
theorem fill_at {N:Nat→NdV→Prop}{f:Fr}{t:Tr}:(f.fill t).At N↔N f.off (f.fill t).nv∧f.l.At N∧t.At N∧f.r.At N:=by
 unfold Fr.fill Tr.nv;rw [Tr.At,app_at];simp only [Ks.At]
theorem plug_at {N:Nat→NdV→Prop}:∀ {c:List Fr} {t:Tr},(plug c t).At N→t.At N
 | [],_,h=>h
 | f::c,t,h=>plug_at (fill_at.1 h).2.2.1
theorem nv_off {f:Fr}{t t':Tr}(h:t'.off=t.off):(f.fill t').nv=(f.fill t).nv:=by
 unfold Fr.fill Tr.nv;simp only [app_labels,app_offs,Ks.labels,Ks.offs,h]
theorem plug_off:∀ (c:List Fr) (f:Fr) (t t':Tr),(plug (c++[f]) t').off=(plug (c++[f]) t).off
 | [],_,_,_=>rfl
 | _::_,_,_,_=>rfl
theorem plug_at' {N N':Nat→NdV→Prop}:∀ {c:List Fr} {f:Fr} {t t':Tr},(plug (c++[f]) t).At N→(∀ o∈ndL (c++[f])++ndR (c++[f]),o≠f.off→∀ n,N o n→N' o n)→((ndL (c++[f])++ndR (c++[f])).Nodup)→N' f.off (f.fill t').nv→t'.At N'→(plug (c++[f]) t').At N'
 | [],f,t,t',h,hm,hd,hf,ht=>by
  have h2:=fill_at.1 (show (f.fill t).At N from h);have hd2:(f.off::(f.l.nodes++f.r.nodes)).Nodup:=by simpa [ndL,ndR] using hd
  have hn:=(List.nodup_cons.1 hd2).1;refine fill_at.2 ⟨hf,kids_mono h2.2.1 fun o ho n=>hm o (by simp [ndL,ndR,ho]) (fun e=>hn (by rw [← e];simp [ho])) n,ht,kids_mono h2.2.2.2 fun o ho n=>hm o (by simp [ndL,ndR,ho]) (fun e=>hn (by rw [← e];simp [ho])) n⟩
 | g::c,f,t,t',h,hm,hd,hf,ht=>by
  have h2:=fill_at.1 (show (g.fill (plug (c++[f]) t)).At N from h);have hd2:(g.off::(g.l.nodes++ndL (c++[f])++(ndR (c++[f])++g.r.nodes))).Nodup:=by
   have:ndL (g::c++[f])++ndR (g::c++[f])=g.off::(g.l.nodes++ndL (c++[f])++(ndR (c++[f])++g.r.nodes)):=by
    show (g.off::g.l.nodes++ndL (c++[f]))++(ndR (c++[f])++g.r.nodes)=_;simp
   rw [← this];exact hd
  have hmem:∀ o,o∈ndL (g::c++[f])++ndR (g::c++[f])↔o=g.off∨o∈g.l.nodes∨o∈ndL (c++[f])++ndR (c++[f])∨o∈g.r.nodes:=fun o=>by
   show o∈(g.off::g.l.nodes++ndL (c++[f]))++(ndR (c++[f])++g.r.nodes)↔_;simp only [List.mem_append,List.mem_cons,List.cons_append];simp only [or_assoc]
  have hfm:f.off∈ndL (c++[f]):=by
   clear hd hm h hf ht h2 hd2 hmem
   induction c with
   | nil=>show f.off∈f.off::f.l.nodes++[];exact List.mem_cons_self
   | cons d c ih=>show f.off∈d.off::d.l.nodes++ndL (c++[f]);exact List.mem_append_right _ ih
  obtain ⟨n1,n2⟩:=List.nodup_cons.1 hd2;have hsub:(ndL (c++[f])++ndR (c++[f])).Nodup:=by
   refine List.Sublist.nodup ?_ n2;exact List.Sublist.append (List.sublist_append_right _ _) (List.sublist_append_left _ _)
  have hl:f.off∉g.l.nodes:=fun hm2=>by
   rw [List.append_assoc] at n2;have:=(List.nodup_append.1 n2).2.2 _ hm2 f.off (List.mem_append_left _ hfm);exact this rfl
  have hr:f.off∉g.r.nodes:=fun hm2=>by
   have:=(List.nodup_append.1 n2).2.2 f.off (List.mem_append_right _ hfm) f.off (List.mem_append_right _ hm2);exact this rfl
  have hg:g.off≠f.off:=fun e=>n1 (by rw [e];exact List.mem_append_left _ (List.mem_append_right _ hfm))
  refine fill_at.2 ⟨?_,kids_mono h2.2.1 fun o ho n=>hm o ((hmem o).2 (.inr (.inl ho))) (fun e=>hl (e▸ho)) n,plug_at' h2.2.2.1 (fun o ho hne n=>hm o ((hmem o).2 (.inr (.inr (.inl ho)))) hne n) hsub hf ht,kids_mono h2.2.2.2 fun o ho n=>hm o ((hmem o).2 (.inr (.inr (.inr ho)))) (fun e=>hr (e▸ho)) n⟩;show N' g.off (g.fill (plug (c++[f]) t')).nv;rw [nv_off (plug_off c f t t')];exact hm _ ((hmem _).2 (.inl rfl)) hg _ h2.1
end TR
end
end
section
namespace TR
def Chg (k:List Nb)(u v:BitVec 64)(I J:List Item):Prop:=∃ A B,I=A++own k u++B∧J=A++own k v++B
theorem Chg.ctx {k:List Nb}{u v:BitVec 64}{I J:List Item}(h:Chg k u v I J)(L R:List Item):Chg k u v (L++I++R) (L++J++R):=by
 obtain ⟨A,B,rfl,rfl⟩:=h;exact ⟨L++A,B++R,by simp only [List.append_assoc],by simp only [List.append_assoc]⟩
theorem Chg.refl_own (k:List Nb)(u v:BitVec 64)(I:List Item):Chg k u v (own k u++I) (own k v++I):=⟨[],I,by simp,by simp⟩
theorem Chg.symm {k:List Nb}{u v:BitVec 64}{I J:List Item}(h:Chg k u v I J):Chg k v u J I:=by
 obtain ⟨A,B,h1,h2⟩:=h;exact ⟨A,B,h2,h1⟩
theorem Chg.plug {k:List Nb}{u v:BitVec 64}{c:List Fr}{t t':Tr}{a:List Nb}(h:Chg k u v (t.items (a++pth c)) (t'.items (a++pth c))):Chg k u v ((plug c t).items a) ((plug c t').items a):=by
 rw [plug_items,plug_items];exact h.ctx _ _
theorem ks_split:∀ (k:Ks) (i:Nat),i≤k.len→∃ l r:Ks,k=l.app r∧l.len=i
 | k,0,_=>⟨.nil,k,rfl,rfl⟩
 | .nil,i+1,h=>by simp [Ks.len] at h
 | .cons x t r,i+1,h=>by
  obtain ⟨l,r2,e,hl⟩:=ks_split r i (by simp [Ks.len] at h;omega);exact ⟨.cons x t l,r2,by rw [e];rfl,by simp [Ks.len,hl]⟩
theorem ok_nd {o:Nat}{p:List Nb}{v:BitVec 64}{k:Ks}{a:List Nb}:(Tr.nd o p v k).Ok a↔p.length≤15∧(∀ x∈p,x.toNat<16)∧(a++p).length≤32∧(v≠0#64→(a++p).length%2=0)∧Rise k.labels∧k.Ok (a++p):=by rw [Tr.Ok]
theorem items_nd (o:Nat)(p:List Nb)(v:BitVec 64)(k:Ks)(a:List Nb):(Tr.nd o p v k).items a=own (a++p) v++k.items (a++p):=by rw [Tr.items]
theorem nodes_nd (o:Nat)(p:List Nb)(v:BitVec 64)(k:Ks):(Tr.nd o p v k).nodes=o::k.nodes:=by rw [Tr.nodes]
theorem at_nd {N:Nat→NdV→Prop}{o:Nat}{p:List Nb}{v:BitVec 64}{k:Ks}:(Tr.nd o p v k).At N↔N o ⟨p,v,k.labels,k.offs⟩∧k.At N:=by rw [Tr.At]
theorem chg_value (o:Nat)(p:List Nb)(u v:BitVec 64)(k:Ks)(a:List Nb):Chg (a++p) u v ((Tr.nd o p u k).items a) ((Tr.nd o p v k).items a):=by
 rw [items_nd,items_nd];exact Chg.refl_own _ _ _ _
theorem ok_value {o:Nat}{p:List Nb}{u v:BitVec 64}{k:Ks}{a:List Nb}(h:(Tr.nd o p u k).Ok a)(he:v≠0#64→(a++p).length%2=0):(Tr.nd o p v k).Ok a:=by
 rw [ok_nd] at h ⊢;exact ⟨h.1,h.2.1,h.2.2.1,he,h.2.2.2.2⟩
theorem chg_kid (o o':Nat)(p:List Nb)(u:BitVec 64)(l r:Ks)(x:Nb)(t:Tr)(a k:List Nb)(v:BitVec 64)(ht:t.items (a++p++[x])=own k v):Chg k 0#64 v ((Tr.nd o p u (l.app r)).items a) ((Tr.nd o' p u (l.app (.cons x t r))).items a):=by
 rw [items_nd,items_nd,app_items,app_items,Ks.items,ht];exact ⟨own (a++p) u++l.items (a++p),r.items (a++p),by rw [own_zero];simp,by simp⟩
theorem ok_kid {o o':Nat}{p:List Nb}{u:BitVec 64}{l r:Ks}{x:Nb}{t:Tr}{a:List Nb}(h:(Tr.nd o p u (l.app r)).Ok a)(ht:t.Ok (a++p++[x]))(hx:x.toNat<16)(hl:∀ y∈l.labels,y.toNat<x.toNat)(hr:∀ y∈r.labels,x.toNat<y.toNat):(Tr.nd o' p u (l.app (.cons x t r))).Ok a:=by
 rw [ok_nd,app_ok,app_labels] at h;rw [ok_nd,app_ok,app_labels,Ks.Ok];obtain ⟨h1,h2,h3,h4,h5,h6⟩:=h;obtain ⟨r1,r2,r3⟩:=List.pairwise_append.1 h5;refine ⟨h1,h2,h3,h4,List.pairwise_append.2 ⟨r1,List.pairwise_cons.2 ⟨hr,r2⟩,fun y hy z hz=>?_⟩,h6.1,hx,ht,h6.2⟩
 rcases List.mem_cons.1 hz with rfl|hz
 ·exact hl y hy
 ·exact r3 y hy z hz
theorem chg_less (o o':Nat)(p:List Nb)(u:BitVec 64)(l r:Ks)(x:Nb)(t:Tr)(a k:List Nb)(v:BitVec 64)(ht:t.items (a++p++[x])=own k v):Chg k v 0#64 ((Tr.nd o p u (l.app (.cons x t r))).items a) ((Tr.nd o' p u (l.app r)).items a):=(chg_kid o' o p u l r x t a k v ht).symm
theorem ok_less {o o':Nat}{p:List Nb}{u:BitVec 64}{l r:Ks}{x:Nb}{t:Tr}{a:List Nb}(h:(Tr.nd o p u (l.app (.cons x t r))).Ok a):(Tr.nd o' p u (l.app r)).Ok a:=by
 rw [ok_nd,app_ok,app_labels,Ks.Ok] at h;rw [ok_nd,app_ok,app_labels];obtain ⟨h1,h2,h3,h4,h5,h6⟩:=h;obtain ⟨r1,r2,r3⟩:=List.pairwise_append.1 h5;exact ⟨h1,h2,h3,h4,List.pairwise_append.2 ⟨r1,(List.pairwise_cons.1 r2).2,fun y hy z hz=>r3 y hy z (List.mem_cons_of_mem _ hz)⟩,h6.1,h6.2.2.2⟩
theorem ok_low {o o1:Nat}{c p:List Nb}{y:Nb}{u:BitVec 64}{k:Ks}{a:List Nb}(h:(Tr.nd o (c++y::p) u k).Ok a):(Tr.nd o1 p u k).Ok (a++c++[y])∧c.length≤14∧(∀ x∈c,x.toNat<16)∧y.toNat<16∧(a++c).length<32:=by
 rw [ok_nd] at h;have e:a++(c++y::p)=a++c++[y]++p:=by simp
 rw [e] at h;obtain ⟨h1,h2,h3,h4,h5,h6⟩:=h;refine ⟨ok_nd.2 ⟨by simp at h1;omega,fun x hx=>h2 x (by simp [hx]),h3,h4,h5,h6⟩,by simp at h1;omega,fun x hx=>h2 x (by simp [hx]),h2 y (by simp),?_⟩;simp only [List.length_append,List.length_singleton] at h3 ⊢;omega
theorem items_low (o o1:Nat)(c p:List Nb)(y:Nb)(u:BitVec 64)(k:Ks)(a:List Nb):(Tr.nd o1 p u k).items (a++c++[y])=(Tr.nd o (c++y::p) u k).items a:=by
 rw [items_nd,items_nd];have e:a++(c++y::p)=a++c++[y]++p:=by simp
 rw [e]
theorem chg_top (o o1 o2:Nat)(c p:List Nb)(y:Nb)(u v:BitVec 64)(k:Ks)(a:List Nb):Chg (a++c) 0#64 v ((Tr.nd o (c++y::p) u k).items a) ((Tr.nd o2 c v (.cons y (.nd o1 p u k) .nil)).items a):=by
 rw [items_nd o2,Ks.items,Ks.items,List.append_nil,items_low o o1];exact ⟨[],(Tr.nd o (c++y::p) u k).items a,by rw [own_zero];simp,by simp⟩
theorem ok_top {o o1 o2:Nat}{c p:List Nb}{y:Nb}{u v:BitVec 64}{k:Ks}{a:List Nb}(h:(Tr.nd o (c++y::p) u k).Ok a)(hv:(a++c).length%2=0):(Tr.nd o2 c v (.cons y (.nd o1 p u k) .nil)).Ok a:=by
 obtain ⟨h1,h2,h3,h4,h5⟩:=ok_low (o1:=o1) h;rw [ok_nd];refine ⟨by omega,h3,by omega,fun _=>hv,?_,?_⟩
 ·show List.Pairwise _ [y];exact List.pairwise_singleton _ _
 ·rw [Ks.Ok,Ks.Ok];exact ⟨h4,h1,trivial⟩
theorem chg_two (o o1 o3:Nat)(c p:List Nb)(y z:Nb)(u v:BitVec 64)(k:Ks)(a key:List Nb)(t:Tr)(ht:t.items (a++c++[z])=own key v) :
  Chg key 0#64 v ((Tr.nd o (c++y::p) u k).items a) ((Tr.nd o3 c 0#64 (.cons y (.nd o1 p u k) (.cons z t .nil))).items a)∧Chg key 0#64 v ((Tr.nd o (c++y::p) u k).items a) ((Tr.nd o3 c 0#64 (.cons z t (.cons y (.nd o1 p u k) .nil))).items a):=by
 constructor
 ·rw [items_nd o3,Ks.items,Ks.items,Ks.items,List.append_nil,items_low o o1,ht,own_zero];exact ⟨(Tr.nd o (c++y::p) u k).items a,[],by rw [own_zero];simp,by simp⟩
 ·rw [items_nd o3,Ks.items,Ks.items,Ks.items,List.append_nil,items_low o o1,ht,own_zero];exact ⟨[],(Tr.nd o (c++y::p) u k).items a,by rw [own_zero];simp,by simp⟩
theorem ok_two {o o1 o3:Nat}{c p:List Nb}{y z:Nb}{u:BitVec 64}{k:Ks}{a:List Nb}{t:Tr}(h:(Tr.nd o (c++y::p) u k).Ok a)(ht:t.Ok (a++c++[z]))(hz:z.toNat<16) :
  (y.toNat<z.toNat→(Tr.nd o3 c 0#64 (.cons y (.nd o1 p u k) (.cons z t .nil))).Ok a)∧(z.toNat<y.toNat→(Tr.nd o3 c 0#64 (.cons z t (.cons y (.nd o1 p u k) .nil))).Ok a):=by
 obtain ⟨h1,h2,h3,h4,h5⟩:=ok_low (o1:=o1) h;refine ⟨fun hyz=>ok_nd.2 ⟨by omega,h3,by omega,fun h=>absurd rfl h,?_,?_⟩,fun hyz=>ok_nd.2 ⟨by omega,h3,by omega,fun h=>absurd rfl h,?_,?_⟩⟩
 ·show List.Pairwise _ [y,z];simp [hyz]
 ·rw [Ks.Ok,Ks.Ok,Ks.Ok];exact ⟨h4,h1,hz,ht,trivial⟩
 ·show List.Pairwise _ [z,y];simp [hyz]
 ·rw [Ks.Ok,Ks.Ok,Ks.Ok];exact ⟨hz,ht,h4,h1,trivial⟩
def Fr.bare (f:Fr):Prop:=f.val=0#64∧f.l=.nil∧f.r=.nil
theorem bare_items:∀ {c:List Fr} (t:Tr) (a:List Nb),(∀ f∈c,f.bare)→(plug c t).items a=t.items (a++pth c)
 | [],t,a,_=>by simp [plug,pth]
 | f::c,t,a,h=>by
  obtain ⟨h1,h2,h3⟩:=h f List.mem_cons_self;show (f.fill (plug c t)).items a=_;rw [fill_items,h1,h2,h3,bare_items t _ (fun g hg=>h g (List.mem_cons_of_mem _ hg)),own_zero,Ks.items];have e:a++pth (f::c)=a++f.pre++[f.x]++pth c:=by simp [pth]
  rw [e];simp
theorem bare_nodes:∀ {c:List Fr} (t:Tr),(∀ f∈c,f.bare)→(plug c t).nodes=c.map Fr.off++t.nodes
 | [],t,_=>rfl
 | f::c,t,h=>by
  obtain ⟨h1,h2,h3⟩:=h f List.mem_cons_self;show (f.fill (plug c t)).nodes=_;rw [fill_nodes,h2,h3,bare_nodes t (fun g hg=>h g (List.mem_cons_of_mem _ hg)),Ks.nodes];simp
end TR
end
section
namespace TR
def pn:List Nb→Nat
 | []=>0
 | x::r=>x.toNat+16*pn r
def packN (l:List Nb):Nat→BitVec 64
 | 0=>BitVec.ofNat 64 l.length
 | k+1=>packN l k ||| ((l.getD k 0#8).setWidth 64 <<< (4+4*k))
def pack (l:List Nb):BitVec 64:=packN l l.length
theorem pn_snoc:∀ (l:List Nb) (x:Nb),pn (l++[x])=pn l+16 ^ l.length*x.toNat
 | [],x=>by simp [pn]
 | y::l,x=>by
  have ih:=pn_snoc l x;have e:16 ^ (y::l).length*x.toNat=16*(16 ^ l.length*x.toNat):=by
   rw [List.length_cons,Nat.pow_succ,Nat.mul_comm (16 ^ l.length) 16,Nat.mul_assoc]
  rw [e];show y.toNat+16*pn (l++[x])=y.toNat+16*pn l+_;rw [ih];omega
theorem pn_lt:∀ {l:List Nb},(∀ x∈l,x.toNat<16)→pn l<16 ^ l.length
 | [],_=>by simp [pn]
 | x::r,h=>by
  have ih:=pn_lt (fun y hy=>h y (List.mem_cons_of_mem _ hy):∀ y∈r,y.toNat<16);have hx:=h x List.mem_cons_self;rw [List.length_cons,Nat.pow_succ];show x.toNat+16*pn r<_;omega
theorem pow16_le {a b:Nat}(h:a≤b):16 ^ a≤16 ^ b:=Nat.pow_le_pow_right (by decide) h
theorem packN_nat {l:List Nb}(hl:l.length≤15)(h:∀ x∈l,x.toNat<16):∀ k,k≤l.length→(packN l k).toNat=l.length+16*pn (l.take k)
 | 0,_=>by
  show (BitVec.ofNat 64 l.length).toNat=_;rw [BitVec.toNat_ofNat,Nat.mod_eq_of_lt (by omega),List.take_zero];rfl
 | k+1,hk=>by
  have ih:=packN_nat hl h k (by omega);have hk':k<l.length:=by omega
  have hlk:l.getD k 0#8=l[k]:=by simp [List.getD,hk']
  have htk:l.take (k+1)=l.take k++[l[k]]:=by rw [List.take_add_one,List.getElem?_eq_getElem (by omega)];rfl
  have hx:=h l[k] (List.getElem_mem _);have hlen:(l.take k).length=k:=by rw [List.length_take];omega
  have h1:=pn_lt (fun x hx=>h x (List.mem_of_mem_take hx):∀ x∈l.take k,x.toNat<16);rw [hlen] at h1;show (packN l k ||| ((l.getD k 0#8).setWidth 64 <<< (4+4*k))).toNat=_;rw [hlk,htk,pn_snoc,hlen,BitVec.toNat_or,ih,BitVec.toNat_shiftLeft,BitVec.toNat_setWidth,Nat.shiftLeft_eq];have e16:2 ^ (4+4*k)=16*16 ^ k:=by
   rw [show 4+4*k=4*(k+1) by omega,Nat.pow_mul,Nat.pow_succ,Nat.mul_comm]
  have h15:=pow16_le (show k≤14 by omega);have hm1:l[k].toNat%2 ^ 64=l[k].toNat:=Nat.mod_eq_of_lt (by have:=l[k].isLt;omega);have hb:l[k].toNat*(16*16 ^ k)<2 ^ 64:=by
   have h3:l[k].toNat*(16*16 ^ k)≤15*(16*16 ^ 14):=Nat.mul_le_mul (by omega) (by omega);omega
  rw [hm1,e16,Nat.mod_eq_of_lt hb];have hlow:l.length+16*pn (l.take k)<2 ^ (4+4*k):=by rw [e16];omega
  have h4:=Nat.two_pow_add_eq_or_of_lt hlow l[k].toNat;rw [e16] at h4;rw [Nat.or_comm,Nat.mul_comm l[k].toNat,← h4];have e5:16*(pn (l.take k)+16 ^ k*l[k].toNat)=16*pn (l.take k)+16*16 ^ k*l[k].toNat:=by rw [Nat.mul_add,Nat.mul_assoc]
  omega
theorem pack_nat {l:List Nb}(hl:l.length≤15)(h:∀ x∈l,x.toNat<16):(pack l).toNat=l.length+16*pn l:=by
 have:=packN_nat hl h l.length (Nat.le_refl _);rw [List.take_length] at this;exact this
theorem pn_64 {l:List Nb}(hl:l.length≤15)(h:∀ x∈l,x.toNat<16):pn l<2 ^ 60:=by
 have h1:=pn_lt h;have h2:=pow16_le hl;omega
def rest (l:List Nb)(k:Nat):BitVec 64:=BitVec.ofNat 64 (pn (l.drop k))
theorem pack_mod {l:List Nb}(hl:l.length≤15)(h:∀ x∈l,x.toNat<16):pack l%16#64=BitVec.ofNat 64 l.length:=by
 apply BitVec.eq_of_toNat_eq;rw [BitVec.toNat_umod,pack_nat hl h,show (16#64:BitVec 64).toNat=16 from rfl,BitVec.toNat_ofNat];omega
theorem pack_shift {l:List Nb}(hl:l.length≤15)(h:∀ x∈l,x.toNat<16):pack l >>> 4=rest l 0:=by
 have h3:=pn_64 hl h;apply BitVec.eq_of_toNat_eq;rw [BitVec.toNat_ushiftRight,pack_nat hl h,Nat.shiftRight_eq_div_pow];unfold rest;rw [BitVec.toNat_ofNat,List.drop_zero,Nat.mod_eq_of_lt (by omega)];omega
theorem rest_lt {l:List Nb}(hl:l.length≤15)(h:∀ x∈l,x.toNat<16)(k:Nat):pn (l.drop k)<2 ^ 60:=pn_64 (by rw [List.length_drop];omega) (fun x hx=>h x (List.mem_of_mem_drop hx))
theorem rest_mod {l:List Nb}(hl:l.length≤15)(h:∀ x∈l,x.toNat<16){k:Nat}(hk:k<l.length):rest l k%16#64=l[k].setWidth 64:=by
 have h1:=rest_lt hl h k;have e:l.drop k=l[k]::l.drop (k+1):=List.drop_eq_getElem_cons hk;have hx:=h l[k] (List.getElem_mem _);unfold rest;apply BitVec.eq_of_toNat_eq;have e2:pn (l.drop k)=l[k].toNat+16*pn (l.drop (k+1)):=by rw [e];rfl
 rw [BitVec.toNat_umod,show (16#64:BitVec 64).toNat=16 from rfl,BitVec.toNat_ofNat,BitVec.toNat_setWidth,e2];rw [e2] at h1;omega
theorem rest_shift {l:List Nb}(hl:l.length≤15)(h:∀ x∈l,x.toNat<16){k:Nat}(hk:k<l.length):rest l k >>> 4=rest l (k+1):=by
 have h1:=rest_lt hl h k;have h2:=rest_lt hl h (k+1);have e:l.drop k=l[k]::l.drop (k+1):=List.drop_eq_getElem_cons hk;have hx:=h l[k] (List.getElem_mem _);have e2:pn (l.drop k)=l[k].toNat+16*pn (l.drop (k+1)):=by rw [e];rfl
 unfold rest;apply BitVec.eq_of_toNat_eq;rw [BitVec.toNat_ushiftRight,BitVec.toNat_ofNat,Nat.mod_eq_of_lt (by omega),BitVec.toNat_ofNat,Nat.mod_eq_of_lt (by omega),Nat.shiftRight_eq_div_pow,e2];omega
theorem rest_end (l:List Nb):rest l l.length=0#64:=by unfold rest;rw [List.drop_length];rfl
def slotN:List Nb→List (BitVec 64)→Nat→BitVec 64
 | x::ls,k::ks,y=>if x.toNat=y then k else slotN ls ks y
 | _,_,_=>0#64
def NdV.cls (n:NdV):Nat:=if n.kids.length≤4 then 1 else 2
def NdV.many (n:NdV):Nat:=if n.kids.length≤4 then 8 else 32
def encW (n:NdV)(i:Nat):BitVec 64 :=
 if i=0 then BitVec.ofNat 64 (n.cls+256*n.kids.length) else if i=1 then pack n.pre else if i=2 then n.val
 else if n.kids.length≤4 then (if i=3 then pack n.labels else n.kids.getD (i-4) 0#64) else (if i<4 then 0#64 else slotN n.labels n.kids (i-4))
def enc (n:NdV):List (BitVec 64):=(List.range n.many).map (encW n)
theorem enc_len (n:NdV):(enc n).length=n.many:=by simp [enc]
theorem enc_get (n:NdV){i:Nat}(h:i<n.many):(enc n).getD i 0#64=encW n i:=by simp [enc,List.getD,h]
structure NdV.Right (n:NdV):Prop where
 p15:n.pre.length≤15
 p16:∀ x∈n.pre,x.toNat<16
 l16:∀ x∈n.labels,x.toNat<16
 rise:Rise n.labels
 len:n.labels.length=n.kids.length
 nz:∀ k∈n.kids,k≠0#64
theorem NdV.Right.many16 {n:NdV}(h:n.Right):n.kids.length≤16:=by
 have:=rise_len h.rise h.l16;have:=h.len;omega
def bigNs (f:Nat→BitVec 64)(l:List Nat):List Nb:=l.filterMap fun x=>if f x=0#64 then none else some (BitVec.ofNat 8 x)
def bigKs (f:Nat→BitVec 64)(l:List Nat):List (BitVec 64):=l.filterMap fun x=>if f x=0#64 then none else some (f x)
theorem slot_low:∀ {ls:List Nb} {ks:List (BitVec 64)} {y:Nat},(∀ x∈ls,y<x.toNat)→slotN ls ks y=0#64
 | [],ks,y,_=>by cases ks<;>rfl
 | x::ls,[],y,_=>rfl
 | x::ls,k::ks,y,h=>by
  show (if x.toNat=y then k else slotN ls ks y)=_;rw [if_neg (by have:=h x List.mem_cons_self;omega)];exact slot_low fun z hz=>h z (List.mem_cons_of_mem _ hz)
theorem fm_congr {α β:Type}{f g:α→Option β}:∀ {l:List α},(∀ x∈l,f x=g x)→l.filterMap f=l.filterMap g
 | [],_=>rfl
 | x::l,h=>by rw [List.filterMap_cons,List.filterMap_cons,h x List.mem_cons_self,fm_congr fun y hy=>h y (List.mem_cons_of_mem _ hy)]
theorem big_back:∀ (ls:List Nb) (ks:List (BitVec 64)) (b n:Nat),ls.length=ks.length→Rise ls→(∀ x∈ls,b≤x.toNat∧x.toNat<b+n)→(∀ k∈ks,k≠0#64) →
  bigNs (slotN ls ks) (List.range' b n)=ls∧bigKs (slotN ls ks) (List.range' b n)=ks
 | [],[],b,n,_,_,_,_=>by
  have e:∀ y,slotN [] [] y=0#64:=fun _=>rfl
  unfold bigNs bigKs;constructor
  ·rw [List.filterMap_eq_nil_iff];intro x _;rw [e,if_pos rfl]
  ·rw [List.filterMap_eq_nil_iff];intro x _;rw [e,if_pos rfl]
 | [],_::_,_,_,h,_,_,_=>by cases h
 | _::_,[],_,_,h,_,_,_=>by cases h
 | x::ls,k::ks,b,n,hl,hr,hb,hz=>by
  obtain ⟨h1,h2⟩:=hb x List.mem_cons_self;obtain ⟨r1,r2⟩:=List.pairwise_cons.1 hr;obtain ⟨m,hm⟩:∃ m,m=x.toNat-b:=⟨_,rfl⟩;obtain ⟨q,hq⟩:∃ q,q=b+n-(x.toNat+1):=⟨_,rfl⟩;have e:List.range' b n=List.range' b m++x.toNat::List.range' (x.toNat+1) q:=by
   have e1:n=m+(q+1):=by omega
   rw [e1,← List.range'_append_1,List.range'_succ,show b+m=x.toNat by omega]
  have hs:∀ y,slotN (x::ls) (k::ks) y=if x.toNat=y then k else slotN ls ks y:=fun _=>rfl
  have hlow:∀ y∈List.range' b m,slotN (x::ls) (k::ks) y=0#64:=fun y hy=>by
   have:=(List.mem_range'_1.1 hy);refine slot_low fun z hz2=>?_
   rcases List.mem_cons.1 hz2 with rfl|hz2
   ·omega
   ·have:=r1 z hz2;omega
  have hk:=hz k List.mem_cons_self;have hhigh:∀ y∈List.range' (x.toNat+1) q,slotN (x::ls) (k::ks) y=slotN ls ks y:=fun y hy=>by
   have:=(List.mem_range'_1.1 hy);rw [hs,if_neg (by omega)]
  have hx8:BitVec.ofNat 8 x.toNat=x:=by simp
  obtain ⟨i1,i2⟩:=big_back ls ks (x.toNat+1) q (by simpa using hl) r2 (fun y hy=>by
   have:=r1 y hy;have:=(hb y (List.mem_cons_of_mem _ hy)).2
   omega) (fun z hz2=>hz z (List.mem_cons_of_mem _ hz2))
  unfold bigNs at i1 ⊢;unfold bigKs at i2 ⊢;rw [e,List.filterMap_append,List.filterMap_append,List.filterMap_cons,List.filterMap_cons];have n1:(List.range' b m).filterMap (fun y=>if slotN (x::ls) (k::ks) y=0#64 then none else some (BitVec.ofNat 8 y))=[]:=by
   rw [List.filterMap_eq_nil_iff];intro y hy;rw [hlow y hy,if_pos rfl]
  have n2:(List.range' b m).filterMap (fun y=>if slotN (x::ls) (k::ks) y=0#64 then none else some (slotN (x::ls) (k::ks) y))=[]:=by
   rw [List.filterMap_eq_nil_iff];intro y hy;rw [hlow y hy,if_pos rfl]
  have n3:slotN (x::ls) (k::ks) x.toNat=k:=by rw [hs,if_pos rfl]
  have n4:(List.range' (x.toNat+1) q).filterMap (fun y=>if slotN (x::ls) (k::ks) y=0#64 then none else some (BitVec.ofNat 8 y))=ls:=(fm_congr fun y hy=>by rw [hhigh y hy]).trans i1;have n5:(List.range' (x.toNat+1) q).filterMap (fun y=>if slotN (x::ls) (k::ks) y=0#64 then none else some (slotN (x::ls) (k::ks) y))=ks:=(fm_congr fun y hy=>by rw [hhigh y hy]).trans i2;rw [n1,n2,n3,n4,n5,if_neg hk,if_neg hk,hx8];exact ⟨rfl,rfl⟩
theorem big_all {n:NdV}(h:n.Right):bigNs (slotN n.labels n.kids) (List.range 16)=n.labels∧bigKs (slotN n.labels n.kids) (List.range 16)=n.kids:=by
 rw [List.range_eq_range'];exact big_back _ _ 0 16 h.len h.rise (fun x hx=>⟨Nat.zero_le _,by have:=h.l16 x hx;omega⟩) h.nz
def numW (n:NdV)(i:Nat):Nat:=if n.kids.length≤4 then 4+i else 4+(n.labels.getD i 0#8).toNat
theorem slot_set:∀ {ls:List Nb} {ks:List (BitVec 64)} {i:Nat} {v:BitVec 64} {y:Nat},ls.length=ks.length→Rise ls→(h:i<ls.length)→slotN ls (ks.set i v) y=if y=ls[i].toNat then v else slotN ls ks y
 | x::ls,k::ks,0,v,y,_,hr,_=>by
  show (if x.toNat=y then v else slotN ls ks y)=if y=x.toNat then v else if x.toNat=y then k else slotN ls ks y
  by_cases e:x.toNat=y
  ·rw [if_pos e,if_pos e.symm]
  ·rw [if_neg e,if_neg (fun h=>e h.symm),if_neg e]
 | x::ls,k::ks,i+1,v,y,hl,hr,h=>by
  obtain ⟨r1,r2⟩:=List.pairwise_cons.1 hr;have h':i<ls.length:=by simpa using h
  have hlt:=r1 ls[i] (List.getElem_mem _);have ih:=slot_set (v:=v) (y:=y) (by simpa using hl:ls.length=ks.length) r2 h';show (if x.toNat=y then k else slotN ls (ks.set i v) y)=if y=ls[i].toNat then v else if x.toNat=y then k else slotN ls ks y
  rw [ih];by_cases e:x.toNat=y
  ·rw [if_pos e,if_neg (by omega),if_pos e]
  ·rw [if_neg e,if_neg e]
theorem enc_kid {n:NdV}(h:n.Right){i:Nat}(hi:i<n.kids.length)(v:BitVec 64){w:Nat}(hw:w<n.many):encW { n with kids:=n.kids.set i v } w=if w=numW n i then v else encW n w:=by
 have hl:=h.len;have h16:=h.many16;have hil:i<n.labels.length:=by omega
 have hlab:n.labels.getD i 0#8=n.labels[i]:=by simp [List.getD,hil]
 unfold encW numW NdV.cls;simp only [List.length_set];by_cases h0:w=0
 ·subst h0;rw [if_pos rfl,if_pos rfl,if_neg (show ¬ 0=(if n.kids.length≤4 then 4+i else 4+(n.labels.getD i 0#8).toNat) by split<;>omega)]
 by_cases h1:w=1
 ·subst h1;rw [if_neg h0,if_pos rfl,if_neg h0,if_pos rfl,if_neg (show ¬ 1=(if n.kids.length≤4 then 4+i else 4+(n.labels.getD i 0#8).toNat) by split<;>omega)]
 by_cases h2:w=2
 ·subst h2;rw [if_neg h0,if_neg h1,if_pos rfl,if_neg h0,if_neg h1,if_pos rfl,if_neg (show ¬ 2=(if n.kids.length≤4 then 4+i else 4+(n.labels.getD i 0#8).toNat) by split<;>omega)]
 rw [if_neg h0,if_neg h1,if_neg h2,if_neg h0,if_neg h1,if_neg h2];by_cases h4:n.kids.length≤4
 ·rw [if_pos h4,if_pos h4,if_pos h4];by_cases h3:w=3
  ·subst h3;rw [if_pos rfl,if_pos rfl,if_neg (by omega)]
  ·rw [if_neg h3,if_neg h3];by_cases e:w=4+i
   ·rw [if_pos e,show w-4=i by omega];simp [List.getD,hi]
   ·rw [if_neg e];have:w-4≠i:=by omega
    simp [List.getD,List.getElem?_set,Ne.symm this]
 ·rw [if_neg h4,if_neg h4,if_neg h4];by_cases h3:w<4
  ·rw [if_pos h3,if_pos h3,if_neg (by omega)]
  ·rw [if_neg h3,if_neg h3,slot_set hl h.rise hil,hlab];by_cases e:w=4+n.labels[i].toNat
   ·rw [if_pos e,if_pos (by omega)]
   ·rw [if_neg e,if_neg (by omega)]
theorem num_lt {n:NdV}(h:n.Right){i:Nat}(hi:i<n.kids.length):4≤numW n i∧numW n i<n.many:=by
 have hl:=h.len;have hil:i<n.labels.length:=by omega
 have hlab:n.labels.getD i 0#8=n.labels[i]:=by simp [List.getD,hil]
 have:=h.l16 _ (List.getElem_mem hil);unfold numW NdV.many;rw [hlab]
 split<;>omega
theorem enc_val {n:NdV}(v:BitVec 64)(w:Nat):encW { n with val:=v } w=if w=2 then v else encW n w:=by
 unfold encW NdV.cls;by_cases h0:w=0
 ·subst h0;rw [if_pos rfl,if_pos rfl,if_neg (show ¬ (0:Nat)=2 by decide)]
 by_cases h1:w=1
 ·subst h1;rw [if_neg h0,if_pos rfl,if_neg (show ¬ (1:Nat)=2 by decide),if_neg h0,if_pos rfl]
 by_cases h2:w=2
 ·subst h2;rw [if_neg h0,if_neg h1,if_pos rfl,if_pos rfl]
 ·rw [if_neg h0,if_neg h1,if_neg h2,if_neg h2,if_neg h0,if_neg h1,if_neg h2]
end TR
end
end Go.Proofs.YtaaihijkdhmcdaaGreatDoor
